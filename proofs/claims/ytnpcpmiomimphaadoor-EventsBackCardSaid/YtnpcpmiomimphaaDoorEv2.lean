/-
  events: what may be decided; contract of may.
-/
import Derived.Test.YtnpcpmiomimphaaDoorEv1
set_option linter.unusedVariables false
namespace Go.Proofs.YtnpcpmiomimphaaDoor
open Go.RowKit

def Ask.may (x : Ask) (e : Int) : Bool := x.fits && (decide (x.k ≤ 9) && (decide (x.n ≤ 1099511627776) && (e == 0 || (e == 10 && (bits .and .i64 (need x.k) 64 != 0)))))

theorem box_cell (w : World) (cs : Array Value) (t : TypeId) (j : Nat) : (w.alloc (.cells cs t)).cell? ⟨w.heap.size, j, none⟩ = cs[j]? := by
  rw [cell_of_row _ w.heap.size j cs t (0, 0) (heap_alloc_new w _)]
theorem Laid.ext {w w' : World} (h : Laid w) (hx : Ext w w') : Laid w' := fun k hk => (Below.cell hx (World.block_lt_of_cell? w _ (h k hk))).trans (h k hk)

set_option maxRecDepth 100000 in
set_option maxHeartbeats 1000000 in
theorem may_walk (k : Nat) (i p a0 a1 a2 b0 b1 b2 n m e : Int) (hx : (Ask.mk k i p a0 a1 a2 b0 b1 b2 n m).Wf) (f : Bool) (nd : Int) (hf : (Ask.mk k i p a0 a1 a2 b0 b1 b2 n m).fits = f) (hnd : need k = nd) (w : World) (hla : Laid w) :
    Calls Tryd.prog 20 #[.agg #[.int .u8 k, .int .u32 i, .int .u32 p, .int .u64 a0, .int .u64 a1, .int .u64 a2, .int .u64 b0, .int .u64 b1, .int .u64 b2, .int .u64 n, .int .u64 m, .int .i64 e]] w fun r w' => r = .returned (.bool (f && (decide (k ≤ 9) && (decide (n ≤ 1099511627776) && (e == 0 || (e == 10 && (bits .and .i64 nd 64 != 0))))))) ∧ Ext w w' := by
  have hcall := fun W (hW : Laid W) => fits_any (Ask.mk k i p a0 a1 a2 b0 b1 b2 n m) hx W hW
  rw [hf] at hcall
  have Hcall := Lib.hid hcall
  clear hcall
  go_enter Tryd.func20, Tryd.ntmps20
  go_wp2_with (fail)
  have hb := box_cell w #[.int .u8 k, .int .u32 i, .int .u32 p, .int .u64 a0, .int .u64 a1, .int .u64 a2, .int .u64 b0, .int .u64 b1, .int .u64 b2, .int .u64 n, .int .u64 m, .int .i64 e] 31
  refine (Hcall.out _ (hla.ext ((Ext.refl w).alloc _))).mono ?_
  rintro r w1 ⟨rfl, x1⟩
  have cl := fun j : Nat => (Below.cell x1 (by show w.heap.size < _; rw [asz]; omega)).trans (hb j)
  have c0 : w1.cell? ⟨w.heap.size, 0, none⟩ = some (.int .u8 k) := cl 0
  have c9 : w1.cell? ⟨w.heap.size, 9, none⟩ = some (.int .u64 n) := cl 9
  have c11 : w1.cell? ⟨w.heap.size, 11, none⟩ = some (.int .i64 e) := cl 11
  have hx1 := ((Ext.refl w).alloc _).trans x1
  clear cl hb Hcall
  have hfk : (Ask.mk k i p a0 a1 a2 b0 b1 b2 n m).fits = true → k < 16 := fun h => by
    simp only [Ask.fits, Bool.and_eq_true, decide_eq_true_eq] at h; exact h.1.1.2
  rw [hf] at hfk
  clear hf
  cases f with
  | false =>
    go_wp2_with (fail)
    go_ret
    exact ⟨by first | rfl | trivial, hx1⟩
  | true =>
    have hk16 := hfk rfl
    have cg : w1.cell? ⟨0, k, none⟩ = some (.int .i64 (need k)) := (Below.cell hx1 (World.block_lt_of_cell? w _ (hla k hk16))).trans (hla k hk16)
    rw [hnd] at cg
    clear hfk hla hx hnd
    by_cases h9 : (k : Int) ≤ 9
    · have h9' : k ≤ 9 := by omega
      by_cases hn : n ≤ 1099511627776
      · by_cases he : e = 0
        · subst he
          go_wp2_with (fail)
          go_ret
          exact ⟨by simp [h9', hn], hx1⟩
        · have he1 : (e == 0) = false := by simp [he]
          by_cases he2 : e = 10
          · subst he2
            go_wp2_with (fail)
            go_ret
            exact ⟨by simp [h9', hn], hx1⟩
          · have he3 : (e == 10) = false := by simp [he2]
            go_wp2_with (fail)
            go_ret
            exact ⟨by simp [h9', hn, he, he2], hx1⟩
      · go_wp2_with (fail)
        go_ret
        exact ⟨by rw [decide_eq_false (show ¬ n ≤ 1099511627776 by omega)]; simp, hx1⟩
    · have h9' : ¬ k ≤ 9 := by omega
      go_wp2_with (fail)
      go_ret
      exact ⟨by simp [h9'], hx1⟩
set_option maxRecDepth 100000 in
theorem may_any (x : Ask) (e : Int) (hx : x.Wf) (w : World) (hla : Laid w) :
    Calls Tryd.prog 20 #[.agg (x.cells ++ [Value.int .i64 e]).toArray] w fun r w' => r = .returned (.bool (x.may e)) ∧ Ext w w' :=
  may_walk _ _ _ _ _ _ _ _ _ _ _ e hx _ _ rfl rfl w hla
end Go.Proofs.YtnpcpmiomimphaaDoor
