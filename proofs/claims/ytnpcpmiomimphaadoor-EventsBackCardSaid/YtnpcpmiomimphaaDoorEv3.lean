/-
  events: an event as bytes; contract of Put.
-/
import Derived.Test.YtnpcpmiomimphaaDoorEv2
import Derived.Deep.RegionHeld3
import Derived.Deep.MidRow
import Derived.Deep.DrawnRows
import Derived.Deep.DeepCutAuto
import Derived.Deep.CutRange
set_option linter.unusedVariables false
namespace Go.Proofs.YtnpcpmiomimphaaDoor
open Go.RowKit
attribute [local go_sem ↓] Go.wp_at_zero Go.wp_at_succ

/-- an event's bytes. -/
def evB (x : Ask) (e : Int) : List UInt8 :=
  [UInt8.ofNat x.k, UInt8.ofNat e.toNat] ++ be 4 x.i.toNat ++ be 4 x.p.toNat ++ be 8 x.a0.toNat ++ be 8 x.a1.toNat ++ be 8 x.a2.toNat ++ be 8 x.b0.toNat ++ be 8 x.b1.toNat ++ be 8 x.b2.toNat ++ be 8 x.n.toNat

def L0 (k i p : Nat) (e : Int) : List UInt8 := [UInt8.ofNat k, UInt8.ofNat e.toNat] ++ be 4 i ++ be 4 p
def amt (l : List Nat) (j : Nat) : List UInt8 := (l.take j).flatMap (be 8)
theorem amt_zero (l : List Nat) : amt l 0 = [] := rfl
theorem amt_succ {l : List Nat} {j v : Nat} (h : l[j]? = some v) : amt l j ++ be 8 v = amt l (j + 1) := by
  unfold amt; rw [List.take_add_one, h]; simp
theorem put_len {w w' : World} {A A' : Option Addr} {m c m' c' v : Nat} {l : List UInt8} (h : Rd w 1 A m c (bvs l)) (h' : Rd w' 1 A' m' c' (bvs (l ++ be 8 v))) : m' = m + 8 := by
  have h1 := h.blen
  have h2 := h'.blen
  rw [List.length_append, be_length, h1] at h2
  omega
theorem cell_ext {w w' : World} (h : Ext w w') {p : Addr} {v : Value} (hc : w.cell? p = some v) : w'.cell? p = some v := (Below.cell h (World.block_lt_of_cell? w _ hc)).trans hc
theorem may_err {x : Ask} {e : Int} (h : x.may e = true) : e = 0 ∨ e = 10 := by
  simp only [Ask.may, Bool.and_eq_true, Bool.or_eq_true, beq_iff_eq] at h
  rcases h.2.2.2 with h | h
  · exact .inl h
  · exact .inr h.1
theorem put_mem (w w1 : World) (v0 v11 : Value) (t : TypeId) (c0 : w1.cell? ⟨w.heap.size, 0, none⟩ = some v0) (c11 : w1.cell? ⟨w.heap.size, 11, none⟩ = some v11) (cs : Array Value) :
    ∃ W3, W3 = w1.alloc (.cells cs t) ∧ W3.heap.size = w1.heap.size + 1 ∧ Ext w1 W3 ∧ W3.cell? ⟨w.heap.size, 11, none⟩ = some v11 ∧ ∀ j : Nat, W3.cell? ⟨w1.heap.size, j, none⟩ = cs[j]? := by
  refine ⟨_, rfl, asz _ _, (Ext.refl w1).alloc _, (Below.cell ((Ext.refl w1).alloc _) (World.block_lt_of_cell? w1 _ c11)).trans c11, fun j => box_cell _ _ _ _⟩

set_option maxRecDepth 100000 in
set_option maxHeartbeats 1000000 in
theorem evPut_no (k : Nat) (i p a0 a1 a2 b0 b1 b2 n m e : Int) (hx : (Ask.mk k i p a0 a1 a2 b0 b1 b2 n m).Wf) (hm : (Ask.mk k i p a0 a1 a2 b0 b1 b2 n m).may e = false) (w : World) (hla : Laid w) :
    Calls Tryd.prog 8 #[.agg #[.int .u8 k, .int .u32 i, .int .u32 p, .int .u64 a0, .int .u64 a1, .int .u64 a2, .int .u64 b0, .int .u64 b1, .int .u64 b2, .int .u64 n, .int .u64 m, .int .i64 e]] w fun r w' => r = .returned (.tuple #[.slice none 0 0, .int .i64 1]) ∧ Ext w w' := by
  have hcall := fun W (hW : Laid W) => may_any (Ask.mk k i p a0 a1 a2 b0 b1 b2 n m) e hx W hW
  rw [hm] at hcall
  have Hcall := Lib.hid hcall
  clear hcall hm
  go_enter Tryd.func8, Tryd.ntmps8
  go_wp2_with (fail)
  refine (Hcall.out _ (hla.ext ((Ext.refl w).alloc _))).mono ?_
  rintro r w1 ⟨rfl, x1⟩
  have hx1 := ((Ext.refl w).alloc _).trans x1
  go_wp2_with (fail)
  go_ret2
  exact ⟨by first | rfl | trivial, hx1⟩

set_option maxRecDepth 100000 in
set_option maxHeartbeats 1000000 in
theorem evPut_yes (k i p a0 a1 a2 b0 b1 b2 n : Nat) (m e : Int) (hx : (Ask.mk k i p a0 a1 a2 b0 b1 b2 n m).Wf) (hm : (Ask.mk k i p a0 a1 a2 b0 b1 b2 n m).may e = true) (w : World) (hla : Laid w) :
    Calls Tryd.prog 8 #[.agg #[.int .u8 k, .int .u32 i, .int .u32 p, .int .u64 a0, .int .u64 a1, .int .u64 a2, .int .u64 b0, .int .u64 b1, .int .u64 b2, .int .u64 n, .int .u64 m, .int .i64 e]] w fun r w' => ∃ A c, r = .returned (.tuple #[.slice A 66 c, .int .i64 0]) ∧ w'.ownsRow w.heap.size 5 1 (.slice A 66 c) 66 (bvs (L0 k i p e ++ amt [a0, a1, a2, b0, b1, b2] 6 ++ be 8 n)) ∧ Ext w w' := by
  have hcall := fun W (hW : Laid W) => may_any (Ask.mk k i p a0 a1 a2 b0 b1 b2 n m) e hx W hW
  rw [hm] at hcall
  have Hcall := Lib.hid hcall
  have he := may_err hm
  clear hcall hm
  have hwi : IntKind.u64.wrap (i : Int) = (i : Int) := by rw [IntKind.wrap_u64]; have := hx.i; simp only at this; omega
  have hwp : IntKind.u64.wrap (p : Int) = (p : Int) := by rw [IntKind.wrap_u64]; have := hx.p; simp only at this; omega
  go_enter Tryd.func8, Tryd.ntmps8
  go_wp2_with (fail)
  refine (Hcall.out _ (hla.ext ((Ext.refl w).alloc _))).mono ?_
  rintro r w1 ⟨rfl, x1⟩
  have hb := box_cell w #[.int .u8 k, .int .u32 i, .int .u32 p, .int .u64 a0, .int .u64 a1, .int .u64 a2, .int .u64 b0, .int .u64 b1, .int .u64 b2, .int .u64 n, .int .u64 m, .int .i64 e] 31
  have cl := fun j : Nat => (Below.cell x1 (by show w.heap.size < _; rw [asz]; omega)).trans (hb j)
  have c0 : w1.cell? ⟨w.heap.size, 0, none⟩ = some (.int .u8 k) := cl 0
  have c1 : w1.cell? ⟨w.heap.size, 1, none⟩ = some (.int .u32 i) := cl 1
  have c2 : w1.cell? ⟨w.heap.size, 2, none⟩ = some (.int .u32 p) := cl 2
  have c3 : w1.cell? ⟨w.heap.size, 3, none⟩ = some (.int .u64 a0) := cl 3
  have c4 : w1.cell? ⟨w.heap.size, 4, none⟩ = some (.int .u64 a1) := cl 4
  have c5 : w1.cell? ⟨w.heap.size, 5, none⟩ = some (.int .u64 a2) := cl 5
  have c6 : w1.cell? ⟨w.heap.size, 6, none⟩ = some (.int .u64 b0) := cl 6
  have c7 : w1.cell? ⟨w.heap.size, 7, none⟩ = some (.int .u64 b1) := cl 7
  have c8 : w1.cell? ⟨w.heap.size, 8, none⟩ = some (.int .u64 b2) := cl 8
  have c9 : w1.cell? ⟨w.heap.size, 9, none⟩ = some (.int .u64 n) := cl 9
  have c10 : w1.cell? ⟨w.heap.size, 10, none⟩ = some (.int .u64 m) := cl 10
  have c11 : w1.cell? ⟨w.heap.size, 11, none⟩ = some (.int .i64 e) := cl 11
  have hx1 := ((Ext.refl w).alloc _).trans x1
  clear cl hb Hcall
  go_upto_region 4 with fail
  obtain ⟨W3, hW3, hs3, hx3, cB, cD⟩ := put_mem w w1 _ _ 28 c0 c11 #[.int .u8 k, .int .u32 i, .int .u32 p, .int .u64 a0, .int .u64 a1, .int .u64 a2, .int .u64 b0, .int .u64 b1, .int .u64 b2, .int .u64 n, .int .u64 m]
  rw [← hW3]
  have Hx := Lib.hid hx
  clear hs3 hW3 c0 c1 c2 c3 c4 c5 c6 c7 c8 c9 c10 c11 hx x1
  replace hx3 := hx1.trans hx3
  clear hx1 hla
  generalize w.heap.size = B at *
  generalize w1.heap.size = D at *
  have hw8 : IntKind.u8.wrap e = e := by rw [IntKind.wrap_u8]; rcases he with rfl | rfl <;> rfl
  have hZ0 : ∃ Z : Array Value, (∀ W, (Instr.makeSlice 32 (.int .i64 0) (.int .i64 66)).run Tryd.prog W = .ok (.slice (some ⟨W.heap.size, 0, none⟩) 0 66) (W.alloc (.cells Z 5))) ∧ Z.size = 66 * 1 :=
    ⟨_, fun W => run_mk Tryd.underlying32 info_u8 0 66 (by omega) (by omega) (by omega) W, by exact madeCells_size 1 _ _⟩
  obtain ⟨Z, hmk, hZ⟩ := hZ0
  have oA := (own_ext (own_made W3.drew Z 5 66 1 W3.heap.size hZ (by simp [maxLen]) (Nat.le_refl _)) ((Ext.refl _).alloc (.cells #[.int .u8 k, .int .u8 e] 5)))
  have oB := own_made (W3.drew.alloc (.cells #[.int .u8 k, .int .u8 e] 5)) Z 5 66 1 W3.heap.size hZ (by simp [maxLen]) (by rw [asz]; exact Nat.le_succ _)
  have hlit : #[Value.int .u8 k, .int .u8 e] = (bvs [UInt8.ofNat k, UInt8.ofNat e.toNat]).toArray := by
    unfold bvs bv
    have h1 : ((UInt8.ofNat k).toNat : Int) = k := by rw [UInt8.toNat_ofNat']; have := Hx.out.k; simp only at this; omega
    have h2 : ((UInt8.ofNat e.toNat).toNat : Int) = e := by rcases he with rfl | rfl <;> rfl
    simp only [List.map_cons, List.map_nil, h1, h2]
  have rA := rd_lit (W3.drew.alloc (.cells Z 5)) _ _ 5 2 hlit rfl (by omega)
  have rB := (rd_lit W3.drew _ _ 5 2 hlit rfl (by omega)).alloc (.cells Z 5)
  rw [asz] at rA oB
  have cD0 : W3.cell? ⟨D, 0, none⟩ = some (.int .u8 k) := cD 0
  have hS : ∀ W, Ext W3 W → Ext W3 W ∧ W.cell? ⟨D, 0, none⟩ = some (.int .u8 k) ∧ W.cell? ⟨B, 11, none⟩ = some (.int .i64 e) := fun W h => ⟨h, (Below.cell h (World.block_lt_of_cell? W3 _ cD0)).trans cD0, (Below.cell h (World.block_lt_of_cell? W3 _ cB)).trans cB⟩
  have HS := Lib.hid hS
  have HcD := Lib.hid cD
  clear hlit hZ hS cD cB cD0
  have t1 : 0 + 2 ≤ maxLen := by unfold maxLen; omega
  have t3 : ∀ o1 o2, W3.heap.size ≤ ((W3.drew.alloc o1).alloc o2).heap.size := fun o1 o2 => by rw [asz, asz]; exact Nat.le_succ_of_le (Nat.le_succ _)
  go_cut [5] (fun s5 wx => ∃ A c, s5 = .slice A 2 c ∧ wx.ownsRow W3.heap.size 5 1 (.slice A 2 c) 2 (bvs [UInt8.ofNat k, UInt8.ofNat e.toNat]) ∧ Ext W3 wx)
  case first =>
    go_region_held3 (fun W => Ext W3 W ∧ W.cell? ⟨D, 0, none⟩ = some (.int .u8 k) ∧ W.cell? ⟨B, 11, none⟩ = some (.int .i64 e)) ((refine HS.out _ ?_; first | assumption | exact (Ext.refl _).drew | exact (Ext.refl _).drew.alloc _ | exact ((Ext.refl _).drew.alloc _).alloc _))
      (first
        | (refine step_append rfl (.tmp 13) (.tmp 19) _ rfl Tryd.underlying32 info_u8 rfl (by decide) rfl rfl oA rA (bvs_oneCell _) t1 (by omega) (t3 _ _) ?_; intro A4 n4 c4 w4 hn4 ho4 hg4 _; have x4 : Ext W3 w4 := (((Ext.refl _).drew.alloc _).alloc _).grown hg4 (own_block_ge oA))
        | (refine step_append rfl (.tmp 13) (.tmp 19) _ rfl Tryd.underlying32 info_u8 rfl (by decide) rfl rfl oB rB (bvs_oneCell _) t1 (by omega) (t3 _ _) ?_; intro A4 n4 c4 w4 hn4 ho4 hg4 _; have x4 : Ext W3 w4 := (((Ext.refl _).drew.alloc _).alloc _).grown hg4 (own_block_ge oB)))
    all_goals
      obtain rfl := hn4.out
      go_wp2_with (fail)
      go_meet
      exact ⟨_, _, rfl, ho4, x4⟩
  case rest =>
    obtain ⟨A, c, rfl, ho, hx5⟩ := hcut
    have hL := (Rd.of_own ho).blen
    have r0 := Rd.of_own ho
    have t5 := hx5.size
    clear hmk oA oB rA rB t1 t3 ho hL
    have cD1 : wc.cell? ⟨D, 1, none⟩ = some (.int .u32 i) := cell_ext hx5 (HcD.out 1)
    have cD2 : wc.cell? ⟨D, 2, none⟩ = some (.int .u32 p) := cell_ext hx5 (HcD.out 2)
    have HS2 := Lib.hid (show ∀ W, Ext wc W → Ext wc W ∧ W.cell? ⟨D, 1, none⟩ = some (.int .u32 i) ∧ W.cell? ⟨D, 2, none⟩ = some (.int .u32 p) from fun W h => ⟨h, cell_ext h cD1, cell_ext h cD2⟩)
    clear cD1 cD2
    go_wp2_with (fail)
    go_region_held3 (fun W => Ext wc W ∧ W.cell? ⟨D, 1, none⟩ = some (.int .u32 i) ∧ W.cell? ⟨D, 2, none⟩ = some (.int .u32 p)) ((refine HS2.out _ ?_; first | assumption | exact (Ext.refl _).drew))
      (first
        | (go_at_call_of 21 (Value.slice A 2 c); refine (put_lit A 2 c _ i 4 i 4 _ rfl (by omega) (by omega) (by omega) _ r0.drew rfl).mono ?_; rintro r w2 ⟨A2, m2, c2, rfl, r2, x2⟩; replace x2 : Ext wc w2 := Ext.trans (Ext.refl wc).drew x2)
        | (go_at_call_of 21 (Value.slice A2 m2 c2); refine (put_lit A2 m2 c2 _ p 4 p 4 _ rfl (by omega) (by omega) (by have := r2.blen; simp [be_length] at this; omega) _ r2 rfl).mono ?_; rintro r w4 ⟨A4, m4, c4, rfl, r4, x4⟩; replace x4 : Ext wc w4 := Ext.trans x2 x4))
    go_wp2_with (fail)
    replace x4 := hx5.trans x4
    obtain rfl : m4 = 10 := by have := r4.blen; simp [be_length] at this; omega
    clear r2 x2 HS2 hx5 r0 t5
    go_loopw [5, 30] (fun s5 s30 wr => ∃ (j : Nat) (A : Option Addr) (m c : Nat), j ≤ 6 ∧ s5 = .slice A m c ∧ s30 = .int .i64 j ∧ Rd wr 1 A m c (bvs (L0 k i p e ++ amt [a0, a1, a2, b0, b1, b2] j)) ∧ Ext W3 wr ∧ Hid (m = 10 + 8 * j)) (fun _ s30 _ => 6 - (intOf s30).toNat)
    case atStart => exact ⟨0, _, _, _, by omega, rfl, rfl, by rw [amt_zero, List.append_nil]; exact r4, x4, Lib.hid rfl⟩
    case round =>
      obtain ⟨j, A5, m5, c5, hj, rfl, rfl, r5, x5, hm5⟩ := hrel
      have c3 : wr.cell? ⟨D, 3, none⟩ = some (.int .u64 a0) := cell_ext x5 (HcD.out 3)
      have c4 : wr.cell? ⟨D, 4, none⟩ = some (.int .u64 a1) := cell_ext x5 (HcD.out 4)
      have c5' : wr.cell? ⟨D, 5, none⟩ = some (.int .u64 a2) := cell_ext x5 (HcD.out 5)
      have c6 : wr.cell? ⟨D, 6, none⟩ = some (.int .u64 b0) := cell_ext x5 (HcD.out 6)
      have c7 : wr.cell? ⟨D, 7, none⟩ = some (.int .u64 b1) := cell_ext x5 (HcD.out 7)
      have c8 : wr.cell? ⟨D, 8, none⟩ = some (.int .u64 b2) := cell_ext x5 (HcD.out 8)
      have c9 : wr.cell? ⟨D, 9, none⟩ = some (.int .u64 n) := cell_ext x5 (HcD.out 9)
      rcases (show j = 0 ∨ j = 1 ∨ j = 2 ∨ j = 3 ∨ j = 4 ∨ j = 5 ∨ j = 6 by omega) with rfl | rfl | rfl | rfl | rfl | rfl | rfl
      · go_wp2_with (fail)
        refine (put_lit A5 m5 c5 _ a0 8 a0 8 _ rfl (by omega) (by omega) (by have := hm5.out; omega) _ r5 rfl).mono ?_
        rintro r w6 ⟨A6, m6, d6, rfl, r6, x6⟩
        have hm6 := put_len r5 r6
        have H6 := Lib.hid (show m6 = 10 + 8 * 1 by have := hm5.out; omega)
        rw [List.append_assoc, amt_succ (v := a0) (by rfl)] at r6
        clear hm6 r5 c3 c4 c5' c6 c7 c8 c9
        replace x6 := x5.trans x6
        go_wp2_with (fail)
        go_roundw
        case rel => exact ⟨1, A6, m6, d6, by omega, rfl, by first | rfl | trivial, r6, x6, H6⟩
        case measure => simp [intOf]
      · go_wp2_with (fail)
        refine (put_lit A5 m5 c5 _ a1 8 a1 8 _ rfl (by omega) (by omega) (by have := hm5.out; omega) _ r5 rfl).mono ?_
        rintro r w6 ⟨A6, m6, d6, rfl, r6, x6⟩
        have hm6 := put_len r5 r6
        have H6 := Lib.hid (show m6 = 10 + 8 * 2 by have := hm5.out; omega)
        rw [List.append_assoc, amt_succ (v := a1) (by rfl)] at r6
        clear hm6 r5 c3 c4 c5' c6 c7 c8 c9
        replace x6 := x5.trans x6
        go_wp2_with (fail)
        go_roundw
        case rel => exact ⟨2, A6, m6, d6, by omega, rfl, by first | rfl | trivial, r6, x6, H6⟩
        case measure => simp [intOf]
      · go_wp2_with (fail)
        refine (put_lit A5 m5 c5 _ a2 8 a2 8 _ rfl (by omega) (by omega) (by have := hm5.out; omega) _ r5 rfl).mono ?_
        rintro r w6 ⟨A6, m6, d6, rfl, r6, x6⟩
        have hm6 := put_len r5 r6
        have H6 := Lib.hid (show m6 = 10 + 8 * 3 by have := hm5.out; omega)
        rw [List.append_assoc, amt_succ (v := a2) (by rfl)] at r6
        clear hm6 r5 c3 c4 c5' c6 c7 c8 c9
        replace x6 := x5.trans x6
        go_wp2_with (fail)
        go_roundw
        case rel => exact ⟨3, A6, m6, d6, by omega, rfl, by first | rfl | trivial, r6, x6, H6⟩
        case measure => simp [intOf]
      · go_wp2_with (fail)
        refine (put_lit A5 m5 c5 _ b0 8 b0 8 _ rfl (by omega) (by omega) (by have := hm5.out; omega) _ r5 rfl).mono ?_
        rintro r w6 ⟨A6, m6, d6, rfl, r6, x6⟩
        have hm6 := put_len r5 r6
        have H6 := Lib.hid (show m6 = 10 + 8 * 4 by have := hm5.out; omega)
        rw [List.append_assoc, amt_succ (v := b0) (by rfl)] at r6
        clear hm6 r5 c3 c4 c5' c6 c7 c8 c9
        replace x6 := x5.trans x6
        go_wp2_with (fail)
        go_roundw
        case rel => exact ⟨4, A6, m6, d6, by omega, rfl, by first | rfl | trivial, r6, x6, H6⟩
        case measure => simp [intOf]
      · go_wp2_with (fail)
        refine (put_lit A5 m5 c5 _ b1 8 b1 8 _ rfl (by omega) (by omega) (by have := hm5.out; omega) _ r5 rfl).mono ?_
        rintro r w6 ⟨A6, m6, d6, rfl, r6, x6⟩
        have hm6 := put_len r5 r6
        have H6 := Lib.hid (show m6 = 10 + 8 * 5 by have := hm5.out; omega)
        rw [List.append_assoc, amt_succ (v := b1) (by rfl)] at r6
        clear hm6 r5 c3 c4 c5' c6 c7 c8 c9
        replace x6 := x5.trans x6
        go_wp2_with (fail)
        go_roundw
        case rel => exact ⟨5, A6, m6, d6, by omega, rfl, by first | rfl | trivial, r6, x6, H6⟩
        case measure => simp [intOf]
      · go_wp2_with (fail)
        refine (put_lit A5 m5 c5 _ b2 8 b2 8 _ rfl (by omega) (by omega) (by have := hm5.out; omega) _ r5 rfl).mono ?_
        rintro r w6 ⟨A6, m6, d6, rfl, r6, x6⟩
        have hm6 := put_len r5 r6
        have H6 := Lib.hid (show m6 = 10 + 8 * 6 by have := hm5.out; omega)
        rw [List.append_assoc, amt_succ (v := b2) (by rfl)] at r6
        clear hm6 r5 c3 c4 c5' c6 c7 c8 c9
        replace x6 := x5.trans x6
        go_wp2_with (fail)
        go_roundw
        case rel => exact ⟨6, A6, m6, d6, by omega, rfl, by first | rfl | trivial, r6, x6, H6⟩
        case measure => simp [intOf]
      · go_wp2_with (fail)
        refine (put_any A5 m5 c5 _ n 8 8 (by omega) (by omega) (by have := hm5.out; omega) _ r5).mono ?_
        rintro r w6 ⟨A6, m6, d6, rfl, o6, x6⟩
        have hm6 := put_len r5 (Rd.of_own o6)
        obtain rfl : m6 = 66 := by have := hm5.out; omega
        clear hm6
        replace o6 := own_mono o6 (Nat.le_trans hx3.size x5.size)
        replace x6 := x5.trans x6
        go_wp2_with (fail)
        go_ret2
        exact ⟨A6, d6, by first | rfl | trivial, o6, hx3.trans x6⟩

theorem evB_eq (k i p a0 a1 a2 b0 b1 b2 n : Nat) (m e : Int) : L0 k i p e ++ amt [a0, a1, a2, b0, b1, b2] 6 ++ be 8 n = evB (Ask.mk k i p a0 a1 a2 b0 b1 b2 n m) e := by
  simp [L0, amt, evB, List.append_assoc]
/-- **events.Put** -/
theorem evPut_any (x : Ask) (e : Int) (hx : x.Wf) (w : World) (hla : Laid w) :
    Calls Tryd.prog 8 #[.agg (x.cells ++ [Value.int .i64 e]).toArray] w fun r w' =>
      (x.may e = false ∧ r = .returned (.tuple #[.slice none 0 0, .int .i64 1]) ∧ Ext w w') ∨
      (x.may e = true ∧ ∃ A c, r = .returned (.tuple #[.slice A 66 c, .int .i64 0]) ∧ w'.ownsRow w.heap.size 5 1 (.slice A 66 c) 66 (bvs (evB x e)) ∧ Ext w w') := by
  obtain ⟨k, i, p, a0, a1, a2, b0, b1, b2, n, m⟩ := x
  cases hm : (Ask.mk k i p a0 a1 a2 b0 b1 b2 n m).may e with
  | false => exact (evPut_no k i p a0 a1 a2 b0 b1 b2 n m e hx hm w hla).mono fun r w' h => .inl ⟨rfl, h⟩
  | true =>
    obtain ⟨i, rfl⟩ := Int.eq_ofNat_of_zero_le hx.i.1
    obtain ⟨p, rfl⟩ := Int.eq_ofNat_of_zero_le hx.p.1
    obtain ⟨a0, rfl⟩ := Int.eq_ofNat_of_zero_le hx.a0.1
    obtain ⟨a1, rfl⟩ := Int.eq_ofNat_of_zero_le hx.a1.1
    obtain ⟨a2, rfl⟩ := Int.eq_ofNat_of_zero_le hx.a2.1
    obtain ⟨b0, rfl⟩ := Int.eq_ofNat_of_zero_le hx.b0.1
    obtain ⟨b1, rfl⟩ := Int.eq_ofNat_of_zero_le hx.b1.1
    obtain ⟨b2, rfl⟩ := Int.eq_ofNat_of_zero_le hx.b2.1
    obtain ⟨n, rfl⟩ := Int.eq_ofNat_of_zero_le hx.n.1
    refine (evPut_yes k i p a0 a1 a2 b0 b1 b2 n m e hx hm w hla).mono fun r w' h => .inr ⟨rfl, ?_⟩
    rw [evB_eq] at h
    exact h
end Go.Proofs.YtnpcpmiomimphaaDoor
