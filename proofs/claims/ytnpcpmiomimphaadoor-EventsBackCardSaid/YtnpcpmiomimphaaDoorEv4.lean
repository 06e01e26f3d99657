/-
  events: bytes as an event; contract of Get.
-/
import Derived.Test.YtnpcpmiomimphaaDoorEv3
import Derived.Handy
set_option linter.unusedVariables false
namespace Go.Proofs.YtnpcpmiomimphaaDoor
open Go.RowKit
attribute [local go_sem ↓] Go.wp_at_zero Go.wp_at_succ

/-- the number of k bytes at a place. -/
def numAt (l : List UInt8) (a k : Nat) : Nat := ofBe ((l.drop a).take k)
theorem info_u8s' : (Tryd.prog.info? 5).map (·.size) = some 1 := by kernel_rfl

set_option maxRecDepth 100000 in
set_option maxHeartbeats 400000 in
theorem num_any (A : Option Addr) (n cap : Nat) (l : List UInt8) (at_ k : Nat) (bb : Nat) (w : World) (hr : Rd w 1 A n cap (bvs l)) (hb : w.cell? ⟨bb, 0, none⟩ = some (.slice A n cap)) (hk : k ≤ 8) (ha : at_ + k ≤ n) :
    Calls Tryd.prog 22 #[.int .i64 at_, .int .i64 k, .pointer (some ⟨bb, 0, none⟩)] w fun e w' => e = .returned (.int .u64 (numAt l at_ k)) ∧ w = w' := by
  obtain ⟨A2, n2, c2, hcut, hn2, -, r2⟩ := cut_l Tryd.underlying32 info_u8s' hr .i64 at_ (by omega)
  subst hn2
  rw [Nat.mul_one, ← bvs_drop] at r2
  have hl := hr.blen
  have hg : getR (l.drop at_) (k : Int) = (numAt l at_ k, 0) := by
    unfold getR; rw [if_neg (by omega), if_neg (by rw [List.length_drop]; omega)]; rfl
  have Hg := Lib.hid hg
  clear hg hl
  go_enter Tryd.func22, Tryd.ntmps22
  go_wp2_with (fail)
  refine (get_any A2 (n - at_) c2 (l.drop at_) k w r2).mono ?_
  rintro e w1 ⟨rfl, rfl⟩
  rw [Hg.out]
  go_wp2_with (fail)
  go_ret
  exact ⟨by first | rfl | trivial, by first | rfl | trivial⟩

theorem numAt_lt (l : List UInt8) (a k : Nat) : numAt l a k < 256 ^ k := by
  unfold numAt
  refine Nat.lt_of_lt_of_le (ofBe_lt _) (Nat.pow_le_pow_right (by omega) ?_)
  rw [List.length_take]; omega
theorem after_cell {w w1 : World} {c : Array Value} {tc t : TypeId} {cs : Array Value} {d : Nat} (h : Ext (((w.alloc (.cells c tc)).alloc (.cells cs t)).drewN d) w1) (j : Nat) : w1.cell? ⟨w.heap.size + 1, j, none⟩ = cs[j]? := by
  refine (Below.cell h ?_).trans ?_
  · show w.heap.size + 1 < ((w.alloc (.cells c tc)).alloc (.cells cs t)).heap.size
    rw [asz, asz]; omega
  · show ((w.alloc (.cells c tc)).alloc (.cells cs t)).cell? ⟨w.heap.size + 1, j, none⟩ = _
    rw [← asz w (.cells c tc)]
    exact box_cell _ _ _ j
theorem after_frozen {w w1 : World} {c : Array Value} {tc t : TypeId} {cs : Array Value} {d : Nat} (h : Ext (((w.alloc (.cells c tc)).alloc (.cells cs t)).drewN d) w1) (j : Nat) : w1.frozen? ⟨w.heap.size + 1, j, none⟩ = false := by
  refine (Below.frozen h ?_).trans ?_
  · show w.heap.size + 1 < ((w.alloc (.cells c tc)).alloc (.cells cs t)).heap.size
    rw [asz, asz]; omega
  · have e : ((w.alloc (.cells c tc)).alloc (.cells cs t)).heap[w.heap.size + 1]? = some (.cells cs t) := by rw [← asz w (.cells c tc)]; exact heap_alloc_new _ _
    show ((w.alloc (.cells c tc)).alloc (.cells cs t)).frozen? _ = false
    unfold World.frozen?
    simp only [e]
    simp
theorem fold2 (W : World) (cs : Array Value) (t : TypeId) (d b j1 j2 : Nat) (v1 v2 : Value) (hb : b = W.heap.size) :
    (((W.alloc (.cells cs t)).drewN d).setCell ⟨b, j1, none⟩ v1).setCell ⟨b, j2, none⟩ v2 = (W.alloc (.cells ((cs.setIfInBounds j1 v1).setIfInBounds j2 v2) t)).drewN d := by
  have e : ∀ (w : World) a v, (w.drewN d).setCell a v = (w.setCell a v).drewN d := fun _ _ _ => rfl
  rw [e, e, World.setCell_alloc_at _ _ _ _ _ hb, World.setCell_alloc_at _ _ _ _ _ hb]
def ev0 : Array Value := #[.int .u8 0, .int .u32 0, .int .u32 0, .int .u64 0, .int .u64 0, .int .u64 0, .int .u64 0, .int .u64 0, .int .u64 0, .int .u64 0, .int .u64 0, .int .i64 0]
set_option maxRecDepth 100000 in
set_option maxHeartbeats 400000 in
theorem evGet_short (A : Option Addr) (n cap : Nat) (w : World) (h : n < 66) (hc : cap ≤ maxLen) (hn : n ≤ cap) :
    Calls Tryd.prog 10 #[.slice A n cap] w fun e w' => e = .returned (.tuple #[.agg ev0, .int .i64 5]) ∧ Ext w w' := by
  have h1 : (n : Int) < 66 := by omega
  unfold maxLen at hc
  go_enter Tryd.func10, Tryd.ntmps10
  go_wp2_with (fail)
  go_returns
  exact ⟨by first | rfl | trivial, ((Ext.refl w).alloc _).alloc _⟩
set_option maxRecDepth 100000 in
set_option maxHeartbeats 400000 in
theorem evGet_long (A : Option Addr) (n cap : Nat) (w : World) (h : 66 < n) (hc : cap ≤ maxLen) (hn : n ≤ cap) :
    Calls Tryd.prog 10 #[.slice A n cap] w fun e w' => e = .returned (.tuple #[.agg ev0, .int .i64 4]) ∧ Ext w w' := by
  have h1 : ¬ (n : Int) < 66 := by omega
  have h2 : (66 : Int) < n := by omega
  unfold maxLen at hc
  go_enter Tryd.func10, Tryd.ntmps10
  go_wp2_with (fail)
  go_returns
  exact ⟨by first | rfl | trivial, ((Ext.refl w).alloc _).alloc _⟩
set_option maxRecDepth 100000 in
set_option maxHeartbeats 8000000 in
theorem evGet_full (A : Option Addr) (cap : Nat) (l : List UInt8) (w : World) (hla : Laid w) (hr : Rd w 1 A 66 cap (bvs l)) (z0 z1 i p a0 a1 a2 b0 b1 b2 n : Nat) (f : Bool)
    (hz0 : (l[0]?.getD 0).toNat = z0) (hz1 : (l[1]?.getD 0).toNat = z1) (hi : numAt l 2 4 = i) (hp : numAt l 6 4 = p) (h10 : numAt l 10 8 = a0) (h18 : numAt l 18 8 = a1) (h26 : numAt l 26 8 = a2)
    (h34 : numAt l 34 8 = b0) (h42 : numAt l 42 8 = b1) (h50 : numAt l 50 8 = b2) (h58 : numAt l 58 8 = n) (hx : (Ask.mk z0 i p a0 a1 a2 b0 b1 b2 n 0).Wf) (hf : (Ask.mk z0 i p a0 a1 a2 b0 b1 b2 n 0).may z1 = f) :
    Calls Tryd.prog 10 #[.slice A 66 cap] w fun e w' => e = .returned (.tuple (if f then #[.agg #[.int .u8 z0, .int .u32 i, .int .u32 p, .int .u64 a0, .int .u64 a1, .int .u64 a2, .int .u64 b0, .int .u64 b1, .int .u64 b2, .int .u64 n, .int .u64 0, .int .i64 z1], .int .i64 0] else #[.agg ev0, .int .i64 4])) ∧ Ext w w' := by
  obtain ⟨ab, ao, rfl, c1⟩ := hr.byte (k := 1) (by omega)
  obtain ⟨ab', ao', hA, c0⟩ := hr.byte (k := 0) (by omega)
  injection hA with hA
  injection hA with hA1 hA2
  subst hA1 hA2
  have hlt := World.block_lt_of_cell? w _ c1
  simp only at hlt
  have n1 : ab ≠ w.heap.size := by omega
  have n2 : ab ≠ w.heap.size + 1 := by omega
  have n3 : ¬ w.heap.size = ab := by omega
  have n4 : ¬ w.heap.size + 1 = ab := by omega
  rw [Nat.add_zero, hz0] at c0
  rw [hz1] at c1
  have hz0b : z0 < 256 := by have := byte_lt (l[0]?.getD 0); omega
  have hz1b : z1 < 256 := by have := byte_lt (l[1]?.getD 0); omega
  have num := fun (a k v : Nat) (hv : numAt l a k = v) (W : World) (hW : Rd W 1 (some ⟨ab, ao, none⟩) 66 cap (bvs l)) (hc : W.cell? ⟨w.heap.size, 0, none⟩ = some (.slice (some ⟨ab, ao, none⟩) 66 cap)) (hk : k ≤ 8) (h : a + k ≤ 66) => hv ▸ num_any (some ⟨ab, ao, none⟩) 66 cap l a k w.heap.size W hW hc hk h
  have N2 := Lib.hid (num 2 4 i hi)
  have N6 := Lib.hid (num 6 4 p hp)
  have N10 := Lib.hid (num 10 8 a0 h10)
  have N18 := Lib.hid (num 18 8 a1 h18)
  have N26 := Lib.hid (num 26 8 a2 h26)
  have N34 := Lib.hid (num 34 8 b0 h34)
  have N42 := Lib.hid (num 42 8 b1 h42)
  have N50 := Lib.hid (num 50 8 b2 h50)
  have N58 := Lib.hid (num 58 8 n h58)
  have hwi : IntKind.u32.wrap (i : Int) = i := by rw [IntKind.wrap_u32]; have := numAt_lt l 2 4; omega
  have hwp : IntKind.u32.wrap (p : Int) = p := by rw [IntKind.wrap_u32]; have := numAt_lt l 6 4; omega
  have hm := fun W (hW : Laid W) => may_any (Ask.mk z0 i p a0 a1 a2 b0 b1 b2 n 0) z1 hx W hW
  rw [hf] at hm
  have Hm := Lib.hid hm
  clear num hz0 hz1 hi hp h10 h18 h26 h34 h42 h50 h58 hx hf hm
  go_enter Tryd.func10, Tryd.ntmps10
  go_wp2_with (fail)
  go_region_held3 (fun W => W.cell? ⟨w.heap.size, 0, none⟩ = some (.slice (some ⟨ab, ao, none⟩) 66 cap) ∧ W.cell? ⟨ab, ao, none⟩ = some (.int .u8 z0)) (go_keep)
    (first
      | (go_at_call_of 22 (Value.int IntKind.i64 2); refine (N2.out _ (((hr.alloc _).alloc _).drew) (by first | assumption | simp) (by omega) (by omega)).mono ?_; rintro e w' ⟨rfl, rfl⟩)
      | (go_at_call_of 22 (Value.int IntKind.i64 6); refine (N6.out _ (((hr.alloc _).alloc _).drew) (by first | assumption | simp) (by omega) (by omega)).mono ?_; rintro e w' ⟨rfl, rfl⟩)
      | (go_at_call_of 22 (Value.int IntKind.i64 58); refine (N58.out _ (((hr.alloc _).alloc _).drew) (by first | assumption | simp) (by omega) (by omega)).mono ?_; rintro e w' ⟨rfl, rfl⟩))
  go_wp2_with (fail)
  clear c0 c1
  have hww : ∀ z : Int, 0 ≤ z → z ≤ 100 → IntKind.i64.wrap z = z := fun z h1 h2 => by rw [IntKind.wrap_i64]; omega
  go_loopw [41] (fun s wr => ∃ (j : Int) (d : Nat) (x0 x1 x2 y0 y1 y2 : Int), 0 ≤ j ∧ j ≤ 3 ∧ s = .int .i64 j ∧ wr = ((w.alloc (.cells #[.slice (some ⟨ab, ao, none⟩) 66 cap] 32)).alloc (.cells #[.int .u8 z0, .int .u32 i, .int .u32 p, .int .u64 x0, .int .u64 x1, .int .u64 x2, .int .u64 y0, .int .u64 y1, .int .u64 y2, .int .u64 n, .int .u64 0, .int .i64 z1] 31)).drewN d ∧
      Hid ((0 < j → x0 = a0 ∧ y0 = b0) ∧ (1 < j → x1 = a1 ∧ y1 = b1) ∧ (2 < j → x2 = a2 ∧ y2 = b2))) (fun s _ => 3 - (intOf s).toNat)
  case atStart => exact ⟨0, 1, 0, 0, 0, 0, 0, 0, by omega, by omega, rfl, rfl, Lib.hid ⟨fun h => by omega, fun h => by omega, fun h => by omega⟩⟩
  case round =>
    obtain ⟨j, d, x0, x1, x2, y0, y1, y2, hj0, hj3, rfl, rfl, ho⟩ := hrel
    rcases (show j = 0 ∨ j = 1 ∨ j = 2 ∨ j = 3 by omega) with rfl | rfl | rfl | rfl
    · go_wp2_with (fail)
      go_region_held3 (fun W => W.cell? ⟨w.heap.size, 0, none⟩ = some (.slice (some ⟨ab, ao, none⟩) 66 cap)) (go_keep)
        (first
          | (go_at_call_of 22 (Value.int IntKind.i64 10); refine (N10.out _ ((((hr.alloc _).alloc _).drewN _).drew) (by first | assumption | simp) (by omega) (by omega)).mono ?_; rintro e w' ⟨rfl, rfl⟩)
          | (go_at_call_of 22 (Value.int IntKind.i64 34); refine (N34.out _ ((((hr.alloc _).alloc _).drewN _).drew) (by first | assumption | simp) (by omega) (by omega)).mono ?_; rintro e w' ⟨rfl, rfl⟩))
      go_wp2_with (fail)
      go_roundw
      case rel => exact ⟨1, d + 1, a0, x1, x2, b0, y1, y2, by omega, by omega, by first | rfl | trivial, fold2 _ _ _ _ _ _ _ _ _ (asz _ _).symm, Lib.hid ⟨fun _ => ⟨rfl, rfl⟩, fun h => by omega, fun h => by omega⟩⟩
      case measure => simp [intOf]
    · go_wp2_with (fail)
      go_region_held3 (fun W => W.cell? ⟨w.heap.size, 0, none⟩ = some (.slice (some ⟨ab, ao, none⟩) 66 cap)) (go_keep)
        (first
          | (go_at_call_of 22 (Value.int IntKind.i64 18); refine (N18.out _ ((((hr.alloc _).alloc _).drewN _).drew) (by first | assumption | simp) (by omega) (by omega)).mono ?_; rintro e w' ⟨rfl, rfl⟩)
          | (go_at_call_of 22 (Value.int IntKind.i64 42); refine (N42.out _ ((((hr.alloc _).alloc _).drewN _).drew) (by first | assumption | simp) (by omega) (by omega)).mono ?_; rintro e w' ⟨rfl, rfl⟩))
      go_wp2_with (fail)
      go_roundw
      case rel => exact ⟨2, d + 1, x0, a1, x2, y0, b1, y2, by omega, by omega, by first | rfl | trivial, fold2 _ _ _ _ _ _ _ _ _ (asz _ _).symm, Lib.hid ⟨fun _ => ho.out.1 (by omega), fun _ => ⟨rfl, rfl⟩, fun h => by omega⟩⟩
      case measure => simp [intOf]
    · go_wp2_with (fail)
      go_region_held3 (fun W => W.cell? ⟨w.heap.size, 0, none⟩ = some (.slice (some ⟨ab, ao, none⟩) 66 cap)) (go_keep)
        (first
          | (go_at_call_of 22 (Value.int IntKind.i64 26); refine (N26.out _ ((((hr.alloc _).alloc _).drewN _).drew) (by first | assumption | simp) (by omega) (by omega)).mono ?_; rintro e w' ⟨rfl, rfl⟩)
          | (go_at_call_of 22 (Value.int IntKind.i64 50); refine (N50.out _ ((((hr.alloc _).alloc _).drewN _).drew) (by first | assumption | simp) (by omega) (by omega)).mono ?_; rintro e w' ⟨rfl, rfl⟩))
      go_wp2_with (fail)
      go_roundw
      case rel => exact ⟨3, d + 1, x0, x1, a2, y0, y1, b2, by omega, by omega, by first | rfl | trivial, fold2 _ _ _ _ _ _ _ _ _ (asz _ _).symm, Lib.hid ⟨fun _ => ho.out.1 (by omega), fun _ => ho.out.2.1 (by omega), fun _ => ⟨rfl, rfl⟩⟩⟩
      case measure => simp [intOf]
    · obtain ⟨⟨rfl, rfl⟩, ⟨rfl, rfl⟩, ⟨rfl, rfl⟩⟩ := And.intro (ho.out.1 (by omega)) (And.intro (ho.out.2.1 (by omega)) (ho.out.2.2 (by omega)))
      go_wp2_with (fail)
      refine (Hm.out _ ?_).mono ?_
      · exact hla.ext (((((Ext.refl w).alloc _).alloc _).drewN _))
      rintro e w1 ⟨rfl, x1⟩
      have hx1 := (((((Ext.refl w).alloc _).alloc _).drewN d)).trans x1
      have cl := after_cell x1
      have hfr := after_frozen x1
      have d0 : w1.cell? ⟨w.heap.size + 1, 0, none⟩ = some (.int .u8 z0) := cl 0
      have d1 : w1.cell? ⟨w.heap.size + 1, 1, none⟩ = some (.int .u32 i) := cl 1
      have d2 : w1.cell? ⟨w.heap.size + 1, 2, none⟩ = some (.int .u32 p) := cl 2
      have d3 : w1.cell? ⟨w.heap.size + 1, 3, none⟩ = some (.int .u64 a0) := cl 3
      have d4 : w1.cell? ⟨w.heap.size + 1, 4, none⟩ = some (.int .u64 a1) := cl 4
      have d5 : w1.cell? ⟨w.heap.size + 1, 5, none⟩ = some (.int .u64 a2) := cl 5
      have d6 : w1.cell? ⟨w.heap.size + 1, 6, none⟩ = some (.int .u64 b0) := cl 6
      have d7 : w1.cell? ⟨w.heap.size + 1, 7, none⟩ = some (.int .u64 b1) := cl 7
      have d8 : w1.cell? ⟨w.heap.size + 1, 8, none⟩ = some (.int .u64 b2) := cl 8
      have d9 : w1.cell? ⟨w.heap.size + 1, 9, none⟩ = some (.int .u64 n) := cl 9
      have d10 : w1.cell? ⟨w.heap.size + 1, 10, none⟩ = some (.int .u64 0) := cl 10
      have d11 : w1.cell? ⟨w.heap.size + 1, 11, none⟩ = some (.int .i64 z1) := cl 11
      clear cl x1 N2 N6 N10 N18 N26 N34 N42 N50 N58 Hm hww hwi hwp
      cases f
      all_goals
        go_wp2_with (fail)
        (try simp only [Exit.inBlock, Exit.then])
        refine bodyPost_ret (by simp [results, Tryd.results10, go_sem, d0, d1, d2, d3, d4, d5, d6, d7, d8, d9, d10, d11]; try rfl) rfl ?_
        exact ⟨rfl, ((((((((((((hx1.setCell (Nat.le_succ _) _).setCell (Nat.le_succ _) _).setCell (Nat.le_succ _) _).setCell (Nat.le_succ _) _).setCell (Nat.le_succ _) _).setCell (Nat.le_succ _) _).setCell (Nat.le_succ _) _).setCell (Nat.le_succ _) _).setCell (Nat.le_succ _) _).setCell (Nat.le_succ _) _).setCell (Nat.le_succ _) _).setCell (Nat.le_succ _) _)⟩
end Go.Proofs.YtnpcpmiomimphaaDoor
