/-
  events: what may be asked, in plain Lean; contract of Fits.
-/
import Derived.Test.YtnpcpmiomimphaaDoorLits
import Derived.Maps.RangeRun
import Derived.Deep.OwnRows
import Derived.Laws.StructEq
import Derived.WideMake
import Derived.Test.YtnpcpmiomimphaaDoorEqInts
set_option linter.unusedVariables false
namespace Go.Proofs.YtnpcpmiomimphaaDoor
open Go.RowKit

theorem info_u64 : ∃ i, Tryd.prog.info? 24 = some i := by
  obtain ⟨i, h, _⟩ := info_parts (show (Tryd.prog.info? 24).map (fun i => (i.zero, i.size, i.bytes)) = some (some (.int .u64 0), 1, 8) from by kernel_rfl); exact ⟨i, h⟩
def needL : List Int := [0, 79, 67, 1, 77, 87, 2, 2, 5, 16, 0, 16, 48, 48, 17, 0]
def need (k : Nat) : Int := needL.getD k 0
/-- the table lies in its variable. -/
def Laid (w : World) : Prop := ∀ k : Nat, k < 16 → w.cell? ⟨0, k, none⟩ = some (.int .i64 (need k))


/-- which parts are there. -/
def hasV (T : Int) (fa fb : Bool) : Int := (fun h => if fb then bits .or .i64 h 8 else h) (if fa then bits .or .i64 T 4 else T)
/-- the literal map of the four numbers, as the walk leaves it. -/
def ents (v0 v1 v2 v3 : Int) : Array MapEntry := #[{ key := .int .i64 1, val := .int .i64 v0, born := 0 }, { key := .int .i64 2, val := .int .i64 v1, born := 1 }, { key := .int .i64 16, val := .int .i64 v2, born := 2 }, { key := .int .i64 32, val := .int .i64 v3, born := 3 }]
set_option maxRecDepth 100000 in
theorem ins (W : World) (r : Nat) (hr : r = W.heap.size) (x : Int) (v : Value) (es : Array MapEntry) (clock : Nat) (hf : Instr.findNow (.int .i64) (.int .i64 x) es.toList 0 = some none) :
    (Instr.mapUpdate 63 (.map (some r)) (.int .i64 x) v).run Tryd.prog (W.alloc (.map es clock)) = .ok () (W.alloc (.map (es.push { key := .int .i64 x, val := v, born := clock }) (clock + 1))) := by
  subst hr
  have hb : (W.alloc (.map es clock)).heap[W.heap.size]? = some (.map es clock) := heap_alloc_new W _
  have hc : (Instr.checkKey false 10000 3 (.int .i64 x)).run Tryd.prog (W.alloc (.map es clock)) = .ok () (W.alloc (.map es clock)) := MapKept.run_checkKey (k := .int .i64 x) Tryd.underlying3 (by simp [MapKept.IsKey]) false 9999
  simp [Instr.mapUpdate, run_underlying Tryd.underlying63, MapKept.run_getObj_map hb, hc, MapKept.run_findKey Tryd.underlying3 hf, MapKept.run_setObj_map _ hb, Result.andThen]
  simp only [World.alloc]
  congr 1
  apply Array.toList_inj.1
  simp
def psum (v0 v1 v2 v3 : Int) (seen : Array Nat) : Int := (if seen.contains 0 then v0 else 0) + (if seen.contains 1 then 2 * v1 else 0) + (if seen.contains 2 then 16 * v2 else 0) + (if seen.contains 3 then 32 * v3 else 0)
theorem psum_bounds {v0 v1 v2 v3 : Int} (h0 : 0 ≤ v0 ∧ v0 ≤ 1) (h1 : 0 ≤ v1 ∧ v1 ≤ 1) (h2 : 0 ≤ v2 ∧ v2 ≤ 1) (h3 : 0 ≤ v3 ∧ v3 ≤ 1) (seen : Array Nat) : 0 ≤ psum v0 v1 v2 v3 seen ∧ psum v0 v1 v2 v3 seen ≤ 51 := by
  unfold psum; split <;> split <;> split <;> split <;> omega
theorem left_ents {v0 v1 v2 v3 : Int} {seen : Array Nat} {e : MapEntry} (h : e ∈ (leftOf (ents v0 v1 v2 v3) seen).toList) :
    seen.contains e.born = false ∧ (e = { key := .int .i64 1, val := .int .i64 v0, born := 0 } ∨ e = { key := .int .i64 2, val := .int .i64 v1, born := 1 } ∨ e = { key := .int .i64 16, val := .int .i64 v2, born := 2 } ∨ e = { key := .int .i64 32, val := .int .i64 v3, born := 3 }) := by
  unfold leftOf ents at h
  rw [Array.mem_toList_iff, Array.mem_filter] at h
  refine ⟨by simpa using h.2, ?_⟩
  have := h.1
  simp only [List.mem_toArray, List.mem_cons, List.not_mem_nil, or_false] at this
  exact this
theorem left_none {v0 v1 v2 v3 : Int} {seen : Array Nat} (h : (leftOf (ents v0 v1 v2 v3) seen).size = 0) : psum v0 v1 v2 v3 seen = v0 + 2 * v1 + 16 * v2 + 32 * v3 := by
  have h := Array.eq_empty_of_size_eq_zero h
  unfold leftOf at h
  rw [Array.filter_eq_empty_iff] at h
  have c : ∀ e ∈ ents v0 v1 v2 v3, seen.contains e.born = true := fun e he => by have := h e he; simpa using this
  have c0 : seen.contains 0 = true := c { key := .int .i64 1, val := .int .i64 v0, born := 0 } (by simp [ents])
  have c1 : seen.contains 1 = true := c { key := .int .i64 2, val := .int .i64 v1, born := 1 } (by simp [ents])
  have c2 : seen.contains 2 = true := c { key := .int .i64 16, val := .int .i64 v2, born := 2 } (by simp [ents])
  have c3 : seen.contains 3 = true := c { key := .int .i64 32, val := .int .i64 v3, born := 3 } (by simp [ents])
  unfold psum
  rw [if_pos c0, if_pos c1, if_pos c2, if_pos c3]
theorem psum_none (v0 v1 v2 v3 : Int) : psum v0 v1 v2 v3 #[] = 0 := by simp [psum]
theorem psum_push0 {v0 v1 v2 v3 : Int} {seen : Array Nat} (h : seen.contains 0 = false) : psum v0 v1 v2 v3 (seen.push 0) = psum v0 v1 v2 v3 seen + 1 * v0 := by
  unfold psum; simp only [Array.contains_push, h]; simp <;> omega
theorem psum_push1 {v0 v1 v2 v3 : Int} {seen : Array Nat} (h : seen.contains 1 = false) : psum v0 v1 v2 v3 (seen.push 1) = psum v0 v1 v2 v3 seen + 2 * v1 := by
  unfold psum; simp only [Array.contains_push, h]; simp <;> omega
theorem psum_push2 {v0 v1 v2 v3 : Int} {seen : Array Nat} (h : seen.contains 2 = false) : psum v0 v1 v2 v3 (seen.push 2) = psum v0 v1 v2 v3 seen + 16 * v2 := by
  unfold psum; simp only [Array.contains_push, h]; simp <;> omega
theorem psum_push3 {v0 v1 v2 v3 : Int} {seen : Array Nat} (h : seen.contains 3 = false) : psum v0 v1 v2 v3 (seen.push 3) = psum v0 v1 v2 v3 seen + 32 * v3 := by
  unfold psum; simp only [Array.contains_push, h]; simp <;> omega
theorem ents_stamped (v0 v1 v2 v3 : Int) : MapKept.Stamped (ents v0 v1 v2 v3) 4 := by
  refine ⟨fun x hx => ?_, by simp [ents], by simp [ents]⟩
  simp only [ents, List.mem_cons, List.not_mem_nil, or_false] at hx
  rcases hx with rfl | rfl | rfl | rfl <;> simp

theorem next_step (v0 v1 v2 v3 : Int) (W2 wr : World) (bm r : Nat) (hbm : W2.heap[bm]? = some (.map (ents v0 v1 v2 v3) 4)) (hr : r = W2.heap.size) (hx : Ext W2 wr) (seen : Array Nat) (hi : wr.heap[r]? = some (.mapIter (some bm) 4 seen 4)) :
    ((leftOf (ents v0 v1 v2 v3) seen).size = 0 ∧ ∀ ty, (Instr.next (.pointer (some ⟨r, 0, none⟩)) false ty).run Tryd.prog wr = .ok (.tuple #[.bool false]) wr) ∨
    ∃ (x v : Int) (wr' : World) (b : Nat), (∀ ty, (Instr.next (.pointer (some ⟨r, 0, none⟩)) false ty).run Tryd.prog wr = .ok (.tuple #[.bool true, .int .i64 x, .int .i64 v]) wr') ∧
      (Instr.entry (.pointer (some ⟨r, 0, none⟩))).run Tryd.prog wr' = .ok (.tuple #[.int .i64 x, .int .i64 v]) wr' ∧ Ext W2 wr' ∧ wr'.heap[r]? = some (.mapIter (some bm) 4 (seen.push b) 4) ∧
      psum v0 v1 v2 v3 (seen.push b) = psum v0 v1 v2 v3 seen + x * v ∧ (leftOf (ents v0 v1 v2 v3) (seen.push b)).size < (leftOf (ents v0 v1 v2 v3) seen).size := by
  have hlt : bm < W2.heap.size := by
    rcases Nat.lt_or_ge bm W2.heap.size with h | h
    · exact h
    · simp [Array.getElem?_eq_none h] at hbm
  have hb : wr.heap[bm]? = some (.map (ents v0 v1 v2 v3) 4) := (hx.block bm hlt).trans hbm
  have st := ents_stamped v0 v1 v2 v3
  rcases run_next_at (P := Tryd.prog) wr 0 r bm 4 4 seen _ 4 hi hb st.1 (Nat.le_refl _) with ⟨h0, hrun⟩ | ⟨e, he, w1, hw1, hrun⟩
  · exact .inl ⟨h0, fun _ => hrun⟩
  · right
    have hr1 : w1.heap[r]? = some (.mapIter (some bm) 4 seen 4) := by rcases hw1 with rfl | rfl <;> exact hi
    have hb1 : w1.heap[bm]? = some (.map (ents v0 v1 v2 v3) 4) := by rcases hw1 with rfl | rfl <;> exact hb
    have hx1 : Ext W2 w1 := by rcases hw1 with rfl | rfl; exact hx; exact hx.drew
    have hset := MapKept.heap_set (o' := .mapIter (some bm) 4 (seen.push e.born) 4) hr1
    have hb2 := (hset.2 bm (by omega)).trans hb1
    have hent := run_entry_at (P := Tryd.prog) (ChangeMaps.setBlock w1 r (.mapIter (some bm) 4 (seen.push e.born) 4)) r bm 4 seen _ 4 e hset.1 hb2 (mem_left he).1 st.2.1
    have hx2 : Ext W2 (ChangeMaps.setBlock w1 r (.mapIter (some bm) 4 (seen.push e.born) 4)) :=
      ⟨hx1.os, hx1.tape, hx1.output, by have := hx1.size; simp [ChangeMaps.setBlock]; exact this, fun i hi => (hset.2 i (by omega)).trans (hx1.block i hi)⟩
    have hsh := left_shrinks (ents v0 v1 v2 v3) seen e he
    obtain ⟨hc, he4⟩ := left_ents he
    have hi2 := hset.1
    change (ChangeMaps.setBlock w1 r (.mapIter (some bm) 4 (seen.push e.born) 4)).heap[r]? = _ at hi2
    generalize ChangeMaps.setBlock w1 r (.mapIter (some bm) 4 (seen.push e.born) 4) = W3 at *
    rcases he4 with rfl | rfl | rfl | rfl
    · exact ⟨_, _, W3, 0, fun _ => hrun, hent, hx2, hi2, psum_push0 hc, hsh⟩
    · exact ⟨_, _, W3, 1, fun _ => hrun, hent, hx2, hi2, psum_push1 hc, hsh⟩
    · exact ⟨_, _, W3, 2, fun _ => hrun, hent, hx2, hi2, psum_push2 hc, hsh⟩
    · exact ⟨_, _, W3, 3, fun _ => hrun, hent, hx2, hi2, psum_push3 hc, hsh⟩
theorem seen_at {w : World} {r : Nat} {a : Option Nat} {b : Nat} {s : Array Nat} {c : Nat} (h : w.heap[r]? = some (.mapIter a b s c)) : w.iterSeen r = s := by unfold World.iterSeen; rw [h]
/-- the world in which the map is ranged over. -/
theorem fits_mem (w : World) (cs : Array Value) (t : TypeId) (es : Array MapEntry) : ∃ W2, W2 = (w.alloc (.cells cs t)).alloc (.map es 4) ∧ W2.heap.size = w.heap.size + 1 + 1 ∧ W2.heap[w.heap.size + 1]? = some (.map es 4) ∧ (∀ j : Nat, W2.cell? ⟨w.heap.size, j, none⟩ = cs[j]?) ∧ Ext w W2 := by
  refine ⟨_, rfl, by rw [asz, asz], by rw [← asz w]; exact heap_alloc_new _ _, fun j => ?_, ((Ext.refl w).alloc _).alloc _⟩
  have := ((Ext.refl (w.alloc (.cells cs t))).alloc (.map es 4)).block w.heap.size (by rw [asz]; omega)
  rw [cell_of_row _ w.heap.size j cs t (0, 0) (this.trans (heap_alloc_new w _))]

set_option maxRecDepth 100000 in
set_option maxHeartbeats 400000 in
theorem fits_in (k : Nat) (i p a0 a1 a2 b0 b1 b2 n m : Int) (v0 v1 v2 v3 T : Int) (fa fb : Bool) (hT : v0 + 2 * v1 + 16 * v2 + 32 * v3 = T) (hfa : decide ([a0, a1, a2] ≠ [0, 0, 0]) = fa) (hfb : decide ([b0, b1, b2] ≠ [0, 0, 0]) = fb) (e0 : min i 1 = v0) (e1 : min p 1 = v1) (e2 : min n 1 = v2) (e3 : min m 1 = v3) (q0 : 0 ≤ v0 ∧ v0 ≤ 1) (q1 : 0 ≤ v1 ∧ v1 ≤ 1) (q2 : 0 ≤ v2 ∧ v2 ≤ 1) (q3 : 0 ≤ v3 ∧ v3 ≤ 1) (hk0 : 0 < k) (hk1 : k < 16) (h0 : a0 ≤ 1099511627776) (h1 : a1 ≤ 1099511627776) (h2 : a2 ≤ 1099511627776) (h3 : b0 ≤ 1099511627776) (h4 : b1 ≤ 1099511627776) (h5 : b2 ≤ 1099511627776) (nd : Int) (w : World) (hla : w.cell? ⟨0, k, none⟩ = some (.int .i64 nd)) :
    Calls Tryd.prog 13 #[.agg #[.int .u8 k, .int .u32 i, .int .u32 p, .int .u64 a0, .int .u64 a1, .int .u64 a2, .int .u64 b0, .int .u64 b1, .int .u64 b2, .int .u64 n, .int .u64 m]] w fun e w' => e = .returned (.bool (bits .andNot .i64 (hasV T fa fb) nd == 0)) ∧ Ext w w' := by
  have hk : ((k : Int) == 0) = false := by rw [beq_eq_false_iff_ne]; omega
  have hk2 : ¬ (16 : Int) ≤ k := by omega
  have HT := Lib.hid hT
  have hqA : ∀ W, (binOp .neq 26 (.agg #[.int .u64 a0, .int .u64 a1, .int .u64 a2]) (.agg #[.int .u64 0, .int .u64 0, .int .u64 0])).run Tryd.prog W = .ok (.bool fa) W := fun W => by
    have := run_neq_ints W Tryd.underlying26 Tryd.underlying24 info_u64.choose_spec (by kernel_rfl) [a0, a1, a2] [0, 0, 0] rfl rfl
    rw [hfa] at this; exact this
  have hqB : ∀ W, (binOp .neq 26 (.agg #[.int .u64 b0, .int .u64 b1, .int .u64 b2]) (.agg #[.int .u64 0, .int .u64 0, .int .u64 0])).run Tryd.prog W = .ok (.bool fb) W := fun W => by
    have := run_neq_ints W Tryd.underlying26 Tryd.underlying24 info_u64.choose_spec (by kernel_rfl) [b0, b1, b2] [0, 0, 0] rfl rfl
    rw [hfb] at this; exact this
  clear hT hfa hfb
  have z0 : wrap64 v0 = v0 := by unfold wrap64; omega
  have z1 : wrap64 v1 = v1 := by unfold wrap64; omega
  have z2 : wrap64 v2 = v2 := by unfold wrap64; omega
  have z3 : wrap64 v3 = v3 := by unfold wrap64; omega
  have hrg := run_range_map (P := Tryd.prog) ((w.alloc (.cells #[.int .u8 k, .int .u32 i, .int .u32 p, .int .u64 a0, .int .u64 a1, .int .u64 a2, .int .u64 b0, .int .u64 b1, .int .u64 b2, .int .u64 n, .int .u64 m] 28)).alloc (.map (ents v0 v1 v2 v3) 4)) 63 3 3 (w.heap.size + 1) (ents v0 v1 v2 v3) 4 Tryd.underlying63 (by rw [← asz w]; exact heap_alloc_new _ _)
  unfold ents at hrg
  rw [show ((w.alloc (.cells #[.int .u8 k, .int .u32 i, .int .u32 p, .int .u64 a0, .int .u64 a1, .int .u64 a2, .int .u64 b0, .int .u64 b1, .int .u64 b2, .int .u64 n, .int .u64 m] 28)).alloc (.map #[{ key := .int .i64 1, val := .int .i64 v0, born := 0 }, { key := .int .i64 2, val := .int .i64 v1, born := 1 }, { key := .int .i64 16, val := .int .i64 v2, born := 2 }, { key := .int .i64 32, val := .int .i64 v3, born := 3 }] 4)).heap.size = w.heap.size + 1 + 1 from by rw [asz, asz]] at hrg
  have hmm := @run_makeMap Tryd.prog
  have hI0 := fun v => ins (w.alloc (.cells #[.int .u8 k, .int .u32 i, .int .u32 p, .int .u64 a0, .int .u64 a1, .int .u64 a2, .int .u64 b0, .int .u64 b1, .int .u64 b2, .int .u64 n, .int .u64 m] 28)) (w.heap.size + 1) (asz _ _).symm 1 v #[] 0 rfl
  have hI1 := fun v => ins (w.alloc (.cells #[.int .u8 k, .int .u32 i, .int .u32 p, .int .u64 a0, .int .u64 a1, .int .u64 a2, .int .u64 b0, .int .u64 b1, .int .u64 b2, .int .u64 n, .int .u64 m] 28)) (w.heap.size + 1) (asz _ _).symm 2 v #[{ key := .int .i64 1, val := .int .i64 v0, born := 0 }] 1 rfl
  have hI2 := fun v => ins (w.alloc (.cells #[.int .u8 k, .int .u32 i, .int .u32 p, .int .u64 a0, .int .u64 a1, .int .u64 a2, .int .u64 b0, .int .u64 b1, .int .u64 b2, .int .u64 n, .int .u64 m] 28)) (w.heap.size + 1) (asz _ _).symm 16 v #[{ key := .int .i64 1, val := .int .i64 v0, born := 0 }, { key := .int .i64 2, val := .int .i64 v1, born := 1 }] 2 rfl
  have hI3 := fun v => ins (w.alloc (.cells #[.int .u8 k, .int .u32 i, .int .u32 p, .int .u64 a0, .int .u64 a1, .int .u64 a2, .int .u64 b0, .int .u64 b1, .int .u64 b2, .int .u64 n, .int .u64 m] 28)) (w.heap.size + 1) (asz _ _).symm 32 v #[{ key := .int .i64 1, val := .int .i64 v0, born := 0 }, { key := .int .i64 2, val := .int .i64 v1, born := 1 }, { key := .int .i64 16, val := .int .i64 v2, born := 2 }] 3 rfl
  simp only [List.push_toArray, List.cons_append, List.nil_append, Nat.reduceAdd] at hI0 hI1 hI2 hI3
  go_enter Tryd.func13, Tryd.ntmps13
  go_wp2_with (fail)
  go_loopw [16] (fun s wr => ∃ j : Nat, j ≤ 3 ∧ s = .int .i64 j ∧ wr = w.alloc (.cells #[.int .u8 k, .int .u32 i, .int .u32 p, .int .u64 a0, .int .u64 a1, .int .u64 a2, .int .u64 b0, .int .u64 b1, .int .u64 b2, .int .u64 n, .int .u64 m] 28)) (fun s _ => 3 - (intOf s).toNat)
  case atStart => exact ⟨0, by omega, rfl, rfl⟩
  case round =>
    obtain ⟨j, hj, rfl, rfl⟩ := hrel
    rcases (show j = 0 ∨ j = 1 ∨ j = 2 ∨ j = 3 by omega) with rfl | rfl | rfl | rfl
    case inl =>
      go_wp2_with (fail)
      go_roundw
      case rel => exact ⟨1, by omega, by first | rfl | trivial, by first | rfl | trivial⟩
      case measure => simp [intOf]
    case inr.inl =>
      go_wp2_with (fail)
      go_roundw
      case rel => exact ⟨2, by omega, by first | rfl | trivial, by first | rfl | trivial⟩
      case measure => simp [intOf]
    case inr.inr.inl =>
      go_wp2_with (fail)
      go_roundw
      case rel => exact ⟨3, by omega, by first | rfl | trivial, by first | rfl | trivial⟩
      case measure => simp [intOf]
    case inr.inr.inr =>
      go_wp2_with (fail)
      clear hI0 hI1 hI2 hI3 hmm hrg
      obtain ⟨W2, hW2, hs2, hb2, hc2, hx2⟩ := fits_mem w #[.int .u8 k, .int .u32 i, .int .u32 p, .int .u64 a0, .int .u64 a1, .int .u64 a2, .int .u64 b0, .int .u64 b1, .int .u64 b2, .int .u64 n, .int .u64 m] 28 (ents v0 v1 v2 v3)
      unfold ents at hW2
      rw [← hW2]
      clear hW2
      have Hs2 := Lib.hid hs2
      have Hc2 := Lib.hid hc2
      have Hb2 := Lib.hid hb2
      clear hs2 hc2 hb2
      go_loopw [4] (fun s wr => ∃ seen, Ext W2 wr ∧ wr.heap[w.heap.size + 1 + 1]? = some (.mapIter (some (w.heap.size + 1)) 4 seen 4) ∧ s = .int .i64 (psum v0 v1 v2 v3 seen)) (fun _ wr => (leftOf (ents v0 v1 v2 v3) (wr.iterSeen (w.heap.size + 1 + 1))).size)
      case atStart => exact ⟨#[], (Ext.refl _).alloc _, by rw [← Hs2.out]; exact heap_alloc_new _ _, by rw [psum_none]⟩
      case round =>
        obtain ⟨seen, hxr, hir, rfl⟩ := hrel
        rcases next_step v0 v1 v2 v3 W2 wr _ _ Hb2.out Hs2.out.symm hxr seen hir with ⟨h0, hnx⟩ | ⟨x, v, w3, b, hnx, hen, hx3, hi3, hps, hsh⟩
        · have hp := (left_none h0).trans HT.out
          rw [hp]
          have cl : ∀ j : Nat, wr.cell? ⟨w.heap.size, j, none⟩ = _ := fun j => (Below.cell hxr (by show w.heap.size < W2.heap.size; rw [Hs2.out]; omega)).trans (Hc2.out j)
          have c0 : wr.cell? ⟨w.heap.size, 0, none⟩ = some (.int .u8 k) := cl 0
          have c3 : wr.cell? ⟨w.heap.size, 3, none⟩ = some (.int .u64 a0) := cl 3
          have c4 : wr.cell? ⟨w.heap.size, 4, none⟩ = some (.int .u64 a1) := cl 4
          have c5 : wr.cell? ⟨w.heap.size, 5, none⟩ = some (.int .u64 a2) := cl 5
          have c6 : wr.cell? ⟨w.heap.size, 6, none⟩ = some (.int .u64 b0) := cl 6
          have c7 : wr.cell? ⟨w.heap.size, 7, none⟩ = some (.int .u64 b1) := cl 7
          have c8 : wr.cell? ⟨w.heap.size, 8, none⟩ = some (.int .u64 b2) := cl 8
          have cg : wr.cell? ⟨0, k, none⟩ = some (.int .i64 nd) := (Below.cell (hx2.trans hxr) (World.block_lt_of_cell? w _ hla)).trans hla
          clear cl hp h0 hir
          have hx := hx2.trans hxr
          cases fa <;> cases fb
          all_goals
            go_wp2_with (fail)
            go_ret
            exact ⟨by first | rfl | trivial, hx⟩
        · have hb := psum_bounds q0 q1 q2 q3 (seen.push b)
          rw [hps] at hb
          have hsh' : (leftOf (ents v0 v1 v2 v3) (w3.iterSeen (w.heap.size + 1 + 1))).size < (leftOf (ents v0 v1 v2 v3) (wr.iterSeen (w.heap.size + 1 + 1))).size := by rw [seen_at hi3, seen_at hir]; exact hsh
          have Hps := Lib.hid hps
          have Hsh := Lib.hid hsh'
          clear hps hsh hsh' hir
          have hb0 := psum_bounds q0 q1 q2 q3 seen
          generalize psum v0 v1 v2 v3 seen = ps at *
          go_wp2_with (fail)
          go_roundw
          case rel => exact ⟨seen.push b, hx3, hi3, by rw [Hps.out]⟩
          case measure => exact Hsh.out

set_option maxRecDepth 100000 in
set_option maxHeartbeats 400000 in
theorem fits_bad (k : Nat) (i p a0 a1 a2 b0 b1 b2 n m : Int) (hk : k = 0 ∨ 16 ≤ k) (hk255 : k ≤ 255) (w : World) :
    Calls Tryd.prog 13 #[.agg #[.int .u8 k, .int .u32 i, .int .u32 p, .int .u64 a0, .int .u64 a1, .int .u64 a2, .int .u64 b0, .int .u64 b1, .int .u64 b2, .int .u64 n, .int .u64 m]] w fun e w' => e = .returned (.bool false) ∧ Ext w w' := by
  by_cases h0 : k = 0
  · subst h0
    go_enter Tryd.func13, Tryd.ntmps13
    go_wp2_with (fail)
    go_ret
    exact ⟨by first | rfl | trivial, (Ext.refl w).alloc _⟩
  · have h1 : ((k : Int) == 0) = false := by rw [beq_eq_false_iff_ne]; omega
    have h2 : (16 : Int) ≤ k := by omega
    have h3 : ¬ (k : Int) = 0 := by omega
    go_enter Tryd.func13, Tryd.ntmps13
    go_wp2_with (fail)
    go_ret
    exact ⟨by first | rfl | trivial, (Ext.refl w).alloc _⟩

set_option maxRecDepth 100000 in
set_option maxHeartbeats 400000 in
theorem fits_over (k : Nat) (i p a0 a1 a2 b0 b1 b2 n m : Int) (hk0 : 0 < k) (hk1 : k < 16) (hb : ¬ (a0 ≤ 1099511627776 ∧ a1 ≤ 1099511627776 ∧ a2 ≤ 1099511627776 ∧ b0 ≤ 1099511627776 ∧ b1 ≤ 1099511627776 ∧ b2 ≤ 1099511627776)) (w : World) :
    Calls Tryd.prog 13 #[.agg #[.int .u8 k, .int .u32 i, .int .u32 p, .int .u64 a0, .int .u64 a1, .int .u64 a2, .int .u64 b0, .int .u64 b1, .int .u64 b2, .int .u64 n, .int .u64 m]] w fun e w' => e = .returned (.bool false) ∧ Ext w w' := by
  have hk : ((k : Int) == 0) = false := by rw [beq_eq_false_iff_ne]; omega
  have hk2 : ¬ (16 : Int) ≤ k := by omega
  have Hb := Lib.hid hb
  clear hb
  go_enter Tryd.func13, Tryd.ntmps13
  go_wp2_with (fail)
  go_loopw [16] (fun s wr => ∃ j : Nat, j ≤ 3 ∧ s = .int .i64 j ∧ wr = w.alloc (.cells #[.int .u8 k, .int .u32 i, .int .u32 p, .int .u64 a0, .int .u64 a1, .int .u64 a2, .int .u64 b0, .int .u64 b1, .int .u64 b2, .int .u64 n, .int .u64 m] 28) ∧ Hid ((0 < j → a0 ≤ 1099511627776 ∧ b0 ≤ 1099511627776) ∧ (1 < j → a1 ≤ 1099511627776 ∧ b1 ≤ 1099511627776) ∧ (2 < j → a2 ≤ 1099511627776 ∧ b2 ≤ 1099511627776))) (fun s _ => 3 - (intOf s).toNat)
  case atStart => exact ⟨0, by omega, rfl, rfl, Lib.hid ⟨fun h => by omega, fun h => by omega, fun h => by omega⟩⟩
  case round =>
    obtain ⟨j, hj, rfl, rfl, ho⟩ := hrel
    rcases (show j = 0 ∨ j = 1 ∨ j = 2 ∨ j = 3 by omega) with rfl | rfl | rfl | rfl
    case inl =>
      by_cases c0 : a0 ≤ 1099511627776 ∧ b0 ≤ 1099511627776
      · obtain ⟨c1, c2⟩ := c0
        go_wp2_with (fail)
        go_roundw
        case rel => exact ⟨1, by omega, by first | rfl | trivial, by first | rfl | trivial, Lib.hid ⟨fun _ => ⟨c1, c2⟩, fun h => by omega, fun h => by omega⟩⟩
        case measure => simp [intOf]
      · by_cases c1 : a0 ≤ 1099511627776
        · have c2 : ¬ b0 ≤ 1099511627776 := fun h => c0 ⟨c1, h⟩
          go_wp2_with (fail)
          go_ret
          exact ⟨by first | rfl | trivial, (Ext.refl w).alloc _⟩
        · go_wp2_with (fail)
          go_ret
          exact ⟨by first | rfl | trivial, (Ext.refl w).alloc _⟩
    case inr.inl =>
      have ho1 := ho.out.1 (by omega)
      have Ho1 := Lib.hid ho1
      clear ho1
      by_cases c0 : a1 ≤ 1099511627776 ∧ b1 ≤ 1099511627776
      · obtain ⟨c1, c2⟩ := c0
        go_wp2_with (fail)
        go_roundw
        case rel => exact ⟨2, by omega, by first | rfl | trivial, by first | rfl | trivial, Lib.hid ⟨fun _ => Ho1.out, fun h => ⟨c1, c2⟩, fun h => by omega⟩⟩
        case measure => simp [intOf]
      · by_cases c1 : a1 ≤ 1099511627776
        · have c2 : ¬ b1 ≤ 1099511627776 := fun h => c0 ⟨c1, h⟩
          go_wp2_with (fail)
          go_ret
          exact ⟨by first | rfl | trivial, (Ext.refl w).alloc _⟩
        · go_wp2_with (fail)
          go_ret
          exact ⟨by first | rfl | trivial, (Ext.refl w).alloc _⟩
    case inr.inr.inl =>
      by_cases c0 : a2 ≤ 1099511627776 ∧ b2 ≤ 1099511627776
      · exact absurd ⟨(ho.out.1 (by omega)).1, (ho.out.2.1 (by omega)).1, c0.1, (ho.out.1 (by omega)).2, (ho.out.2.1 (by omega)).2, c0.2⟩ Hb.out
      · by_cases c1 : a2 ≤ 1099511627776
        · have c2 : ¬ b2 ≤ 1099511627776 := fun h => c0 ⟨c1, h⟩
          go_wp2_with (fail)
          go_ret
          exact ⟨by first | rfl | trivial, (Ext.refl w).alloc _⟩
        · go_wp2_with (fail)
          go_ret
          exact ⟨by first | rfl | trivial, (Ext.refl w).alloc _⟩
    case inr.inr.inr =>
      exact absurd ⟨(ho.out.1 (by omega)).1, (ho.out.2.1 (by omega)).1, (ho.out.2.2 (by omega)).1, (ho.out.1 (by omega)).2, (ho.out.2.1 (by omega)).2, (ho.out.2.2 (by omega)).2⟩ Hb.out

/-- what is asked, as numbers. -/
structure Ask where
  k : Nat
  i : Int
  p : Int
  a0 : Int
  a1 : Int
  a2 : Int
  b0 : Int
  b1 : Int
  b2 : Int
  n : Int
  m : Int
def Ask.cells (x : Ask) : List Value := [.int .u8 x.k, .int .u32 x.i, .int .u32 x.p, .int .u64 x.a0, .int .u64 x.a1, .int .u64 x.a2, .int .u64 x.b0, .int .u64 x.b1, .int .u64 x.b2, .int .u64 x.n, .int .u64 x.m]
structure Ask.Wf (x : Ask) : Prop where
  k : x.k ≤ 255
  i : 0 ≤ x.i ∧ x.i < 4294967296
  p : 0 ≤ x.p ∧ x.p < 4294967296
  a0 : 0 ≤ x.a0 ∧ x.a0 < 18446744073709551616
  a1 : 0 ≤ x.a1 ∧ x.a1 < 18446744073709551616
  a2 : 0 ≤ x.a2 ∧ x.a2 < 18446744073709551616
  b0 : 0 ≤ x.b0 ∧ x.b0 < 18446744073709551616
  b1 : 0 ≤ x.b1 ∧ x.b1 < 18446744073709551616
  b2 : 0 ≤ x.b2 ∧ x.b2 < 18446744073709551616
  n : 0 ≤ x.n ∧ x.n < 18446744073709551616
  m : 0 ≤ x.m ∧ x.m < 18446744073709551616
def Ask.has (x : Ask) : Int := hasV (min x.i 1 + 2 * min x.p 1 + 16 * min x.n 1 + 32 * min x.m 1) (decide ([x.a0, x.a1, x.a2] ≠ [0, 0, 0])) (decide ([x.b0, x.b1, x.b2] ≠ [0, 0, 0]))
def Ask.small (x : Ask) : Prop := x.a0 ≤ 1099511627776 ∧ x.a1 ≤ 1099511627776 ∧ x.a2 ≤ 1099511627776 ∧ x.b0 ≤ 1099511627776 ∧ x.b1 ≤ 1099511627776 ∧ x.b2 ≤ 1099511627776
instance (x : Ask) : Decidable x.small := by unfold Ask.small; infer_instance
/-- may it be asked? -/
def Ask.fits (x : Ask) : Bool := decide (0 < x.k ∧ x.k < 16) && decide x.small && (bits .andNot .i64 x.has (need x.k) == 0)

theorem fits_any (x : Ask) (hx : x.Wf) (w : World) (hla : Laid w) :
    Calls Tryd.prog 13 #[.agg x.cells.toArray] w fun e w' => e = .returned (.bool x.fits) ∧ Ext w w' := by
  obtain ⟨k, i, p, a0, a1, a2, b0, b1, b2, n, m⟩ := x
  by_cases hk : 0 < k ∧ k < 16
  · by_cases hs : Ask.small ⟨k, i, p, a0, a1, a2, b0, b1, b2, n, m⟩
    · obtain ⟨h0, h1, h2, h3, h4, h5⟩ := id hs
      have q0 := hx.i; have q1 := hx.p; have q2 := hx.n; have q3 := hx.m
      simp only at q0 q1 q2 q3
      refine (fits_in k i p a0 a1 a2 b0 b1 b2 n m _ _ _ _ _ _ _ rfl rfl rfl rfl rfl rfl rfl (by omega) (by omega) (by omega) (by omega) hk.1 hk.2 h0 h1 h2 h3 h4 h5 (need k) w (hla k hk.2)).mono ?_
      rintro e w' ⟨rfl, h⟩
      refine ⟨?_, h⟩
      unfold Ask.fits Ask.has
      rw [decide_eq_true hk, decide_eq_true hs]
      rfl
    · refine (fits_over k i p a0 a1 a2 b0 b1 b2 n m hk.1 hk.2 hs w).mono ?_
      rintro e w' ⟨rfl, h⟩
      refine ⟨?_, h⟩
      unfold Ask.fits
      rw [decide_eq_false hs]
      simp
  · refine (fits_bad k i p a0 a1 a2 b0 b1 b2 n m (by omega) hx.k w).mono ?_
    rintro e w' ⟨rfl, h⟩
    refine ⟨?_, h⟩
    unfold Ask.fits
    rw [decide_eq_false hk]
    rfl
end Go.Proofs.YtnpcpmiomimphaaDoor
