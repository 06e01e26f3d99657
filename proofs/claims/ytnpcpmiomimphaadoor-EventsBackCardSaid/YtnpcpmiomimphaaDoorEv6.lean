/-
  lives of almonerlaw25: the chapter's event.
-/
import Derived.Test.YtnpcpmiomimphaaDoorEv5
set_option linter.unusedVariables false
namespace Go.Proofs.YtnpcpmiomimphaaDoor
open Go.RowKit

def tick : Ask := ⟨9, 0, 0, 0, 0, 0, 0, 0, 0, 3, 0⟩
theorem tick_wf : tick.Wf := by constructor <;> simp [tick]
theorem tick_may : tick.may 0 = true := by decide +kernel
theorem tick_over : tick.may 10 = false := by decide +kernel
theorem tick_get : getEv (evB tick 0) = ([.int .u8 9, .int .u32 0, .int .u32 0, .int .u64 0, .int .u64 0, .int .u64 0, .int .u64 0, .int .u64 0, .int .u64 0, .int .u64 3, .int .u64 0, .int .i64 0], 0) := by kernel_rfl

def tickId : Ask := ⟨9, 1, 0, 0, 0, 0, 0, 0, 0, 0, 0⟩
def status : Ask := ⟨15, 0, 0, 0, 0, 0, 0, 0, 0, 0, 0⟩
theorem tickId_wf : tickId.Wf := by constructor <;> simp [tickId]
theorem status_wf : status.Wf := by constructor <;> simp [status]
theorem tickId_fits : tickId.fits = false := by decide +kernel
theorem status_fits : status.fits = true := by decide +kernel
theorem tick0 : ((evB tick 0)[0]?.getD 0).toNat = 9 := by decide +kernel
theorem tick65 : ((evB tick 0)[65]?.getD 0).toNat = 3 := by decide +kernel

set_option maxRecDepth 100000 in
set_option maxHeartbeats 1000000 in
theorem lives_any (w : World) (hla : Laid w) : Calls Tryd.prog 9 #[] w fun e w' => e = .returned (.bool true) ∧ Ext w w' := by
  go_enter Tryd.func9, Tryd.ntmps9
  go_wp2_with (fail)
  refine (evPut_any tick 0 tick_wf _ (hla.ext ((Ext.refl w).alloc _))).mono ?_
  rintro r w1 (⟨h, -⟩ | ⟨-, A, c, rfl, ho, x1⟩)
  · rw [tick_may] at h; cases h
  have r1 := Rd.of_own ho
  have hx1 := ((Ext.refl w).alloc _).trans x1
  have hge := own_block_ge ho
  obtain ⟨ab, ao, rfl, b0⟩ := r1.byte (k := 0) (by omega)
  obtain ⟨ab', ao', hA, b65⟩ := r1.byte (k := 65) (by omega)
  injection hA with hA
  injection hA with hA1 hA2
  subst hA1 hA2
  have hab : w.heap.size + 1 ≤ ab := by have := hge ab rfl; rwa [asz] at this
  have n1 : ¬ w.heap.size = ab := by omega
  rw [tick0, Nat.add_zero] at b0
  rw [tick65] at b65
  go_wp2_with (fail)
  refine (evGet_any _ 66 c _ w1 (hla.ext hx1) r1).mono ?_
  rw [tick_get]
  rintro r w2 ⟨rfl, x2⟩
  replace b0 := cell_ext x2 b0
  replace b65 := cell_ext x2 b65
  have d0 : w2.cell? ⟨w.heap.size, 0, none⟩ = some (.int .u8 9) := cell_ext x2 (cell_ext x1 (box_cell w _ _ 0))
  have d1 : w2.cell? ⟨w.heap.size, 1, none⟩ = some (.int .u32 0) := cell_ext x2 (cell_ext x1 (box_cell w _ _ 1))
  have d2 : w2.cell? ⟨w.heap.size, 2, none⟩ = some (.int .u32 0) := cell_ext x2 (cell_ext x1 (box_cell w _ _ 2))
  have d3 : w2.cell? ⟨w.heap.size, 3, none⟩ = some (.int .u64 0) := cell_ext x2 (cell_ext x1 (box_cell w _ _ 3))
  have d4 : w2.cell? ⟨w.heap.size, 4, none⟩ = some (.int .u64 0) := cell_ext x2 (cell_ext x1 (box_cell w _ _ 4))
  have d5 : w2.cell? ⟨w.heap.size, 5, none⟩ = some (.int .u64 0) := cell_ext x2 (cell_ext x1 (box_cell w _ _ 5))
  have d6 : w2.cell? ⟨w.heap.size, 6, none⟩ = some (.int .u64 0) := cell_ext x2 (cell_ext x1 (box_cell w _ _ 6))
  have d7 : w2.cell? ⟨w.heap.size, 7, none⟩ = some (.int .u64 0) := cell_ext x2 (cell_ext x1 (box_cell w _ _ 7))
  have d8 : w2.cell? ⟨w.heap.size, 8, none⟩ = some (.int .u64 0) := cell_ext x2 (cell_ext x1 (box_cell w _ _ 8))
  have d9 : w2.cell? ⟨w.heap.size, 9, none⟩ = some (.int .u64 3) := cell_ext x2 (cell_ext x1 (box_cell w _ _ 9))
  have d10 : w2.cell? ⟨w.heap.size, 10, none⟩ = some (.int .u64 0) := cell_ext x2 (cell_ext x1 (box_cell w _ _ 10))
  have d11 : w2.cell? ⟨w.heap.size, 11, none⟩ = some (.int .i64 0) := cell_ext x2 (cell_ext x1 (box_cell w _ _ 11))
  have hfr : ∀ j, w2.frozen? ⟨w.heap.size, j, none⟩ = false := fun j => by
    refine (Below.frozen (x1.trans x2) (by show w.heap.size < _; rw [asz]; omega)).trans ?_
    have e := heap_alloc_new w (.cells #[.int .u8 9, .int .u32 0, .int .u32 0, .int .u64 0, .int .u64 0, .int .u64 0, .int .u64 0, .int .u64 0, .int .u64 0, .int .u64 3, .int .u64 0, .int .i64 0] 31)
    unfold World.frozen?
    simp only [e]
    simp
  clear r1 ho hge
  have hx2 := hx1.trans x2
  clear x1 x2
  have hlt1 := World.block_lt_of_cell? w2 _ d0
  have hlt2 := World.block_lt_of_cell? w2 _ b0
  simp only at hlt1 hlt2
  have n2 : ¬ w2.heap.size = ab := by omega
  have n3 : ¬ w2.heap.size = w.heap.size := by omega
  go_wp2_with (fail)
  have hs : (w2.setCell ⟨w.heap.size, 11, none⟩ (.int .i64 10)).heap.size = w2.heap.size := by simp [World.setCell]
  have hxW := fun o => (hx2.setCell (p := ⟨w.heap.size, 11, none⟩) (Nat.le_refl _) (.int .i64 10)).alloc o
  have e0 : ∀ o, ((w2.setCell ⟨w.heap.size, 11, none⟩ (.int .i64 10)).alloc o).cell? ⟨ab, ao, none⟩ = some (.int .u8 9) := fun o => cell_ext ((Ext.refl _).alloc o) ((World.cell?_setCell_far w2 _ _ _ n1).trans b0)
  have e65 : ∀ o, ((w2.setCell ⟨w.heap.size, 11, none⟩ (.int .i64 10)).alloc o).cell? ⟨ab, ao + 65, none⟩ = some (.int .u8 3) := fun o => cell_ext ((Ext.refl _).alloc o) ((World.cell?_setCell_far w2 _ _ _ n1).trans b65)
  have e9 : ∀ cs t, ((w2.setCell ⟨w.heap.size, 11, none⟩ (.int .i64 10)).alloc (.cells cs t)).cell? ⟨w2.heap.size, 9, none⟩ = cs[9]? := fun cs t => by rw [← hs]; exact box_cell _ _ _ _
  refine (evPut_any tick 10 tick_wf _ (hla.ext (hxW _))).mono ?_
  rintro r w3 (⟨-, rfl, x3⟩ | ⟨h, -⟩)
  rotate_left
  · rw [tick_over] at h; cases h
  replace e0 := cell_ext x3 (e0 _)
  replace e65 := cell_ext x3 (e65 _)
  have e9 : w3.cell? ⟨w2.heap.size, 9, none⟩ = some (.int .u64 3) := cell_ext x3 (e9 _ _)
  have hx3 := (hxW _).trans x3
  clear d0 d1 d2 d3 d4 d5 d6 d7 d8 d9 d10 d11 hfr hs hxW x3 b0 b65 hx2 hx1
  go_wp2_with (fail)
  refine (fits_any tickId tickId_wf w3 (hla.ext hx3)).mono ?_
  rintro r w4 ⟨rfl, x4⟩
  rw [tickId_fits]
  go_wp2_with (fail)
  refine (fits_any status status_wf w4 (hla.ext (hx3.trans x4))).mono ?_
  rintro r w5 ⟨rfl, x5⟩
  rw [status_fits]
  go_wp2_with (fail)
  go_ret
  exact ⟨by first | rfl | trivial, hx3.trans (x4.trans x5)⟩
end Go.Proofs.YtnpcpmiomimphaaDoor
