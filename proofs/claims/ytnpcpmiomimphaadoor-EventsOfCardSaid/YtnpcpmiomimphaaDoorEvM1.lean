/-
  events: what may be asked, in plain Lean; contract of Fits.
  events: what may be decided; contract of may.
  events: an event as bytes; contract of Put.
  events: bytes as an event; contract of Get.
  events: Get of any bytes.
  lives of almonerlaw25: the chapter's event.
  events: what may be asked may be asked with less. Plain Lean.
-/
import Derived.Test.YtnpcpmiomimphaaDoorLits
import Derived.Maps.RangeRun
import Derived.Deep.OwnRows
import Derived.Laws.StructEq
import Derived.WideMake
import Derived.Test.YtnpcpmiomimphaaDoorEqInts
import Derived.Deep.RegionHeld3
import Derived.Deep.MidRow
import Derived.Deep.DrawnRows
import Derived.Deep.DeepCutAuto
import Derived.Deep.CutRange
import Derived.Handy
set_option linter.unusedVariables false
set_option linter.unusedSimpArgs false
namespace Go.Proofs.YtnpcpmiomimphaaDoor
open Go.RowKit

theorem info_u64 : ∃ i, Tryd.prog.info? 24 = some i := by
  obtain ⟨i, h, _⟩ := info_parts (show (Tryd.prog.info? 24).map (fun i => (i.zero, i.size, i.bytes)) = some (some (.int .u64 0), 1, 8) from by kernel_rfl); exact ⟨i, h⟩
def needL : List Int := [0, 79, 67, 1, 77, 87, 2, 2, 5, 16, 0, 16, 48, 48, 17, 0]
def need (k : Nat) : Int := needL.getD k 0
/-- the table lies in its variable. -/
def Laid (w : World) : Prop := ∀ k : Nat, k < 16 → w.cell? ⟨0, k, none⟩ = some (.int .i64 (need k))


/-- which parts are there. -/
def hasV (T : Int) (fa fb : Bool) : Int := (fun h => if fb then bits .or .i64 h 8 else h) (if fa then bits .or .i64 T 4 else T)
/-- the literal map of the four numbers, as the walk leaves it. -/
def ents (v0 v1 v2 v3 : Int) : Array MapEntry := #[{ key := .int .i64 1, val := .int .i64 v0, born := 0 }, { key := .int .i64 2, val := .int .i64 v1, born := 1 }, { key := .int .i64 16, val := .int .i64 v2, born := 2 }, { key := .int .i64 32, val := .int .i64 v3, born := 3 }]
set_option maxRecDepth 100000 in
theorem ins (W : World) (r : Nat) (hr : r = W.heap.size) (x : Int) (v : Value) (es : Array MapEntry) (clock : Nat) (hf : Instr.findNow (.int .i64) (.int .i64 x) es.toList 0 = some none) :
    (Instr.mapUpdate 63 (.map (some r)) (.int .i64 x) v).run Tryd.prog (W.alloc (.map es clock)) = .ok () (W.alloc (.map (es.push { key := .int .i64 x, val := v, born := clock }) (clock + 1))) := by
  subst hr
  have hb : (W.alloc (.map es clock)).heap[W.heap.size]? = some (.map es clock) := heap_alloc_new W _
  have hc : (Instr.checkKey false 10000 3 (.int .i64 x)).run Tryd.prog (W.alloc (.map es clock)) = .ok () (W.alloc (.map es clock)) := MapKept.run_checkKey (k := .int .i64 x) Tryd.underlying3 (by simp [MapKept.IsKey]) false 9999
  simp [Instr.mapUpdate, run_underlying Tryd.underlying63, MapKept.run_getObj_map hb, hc, MapKept.run_findKey Tryd.underlying3 hf, MapKept.run_setObj_map _ hb, Result.andThen]
  simp only [World.alloc]
  congr 1
  apply Array.toList_inj.1
  simp
def psum (v0 v1 v2 v3 : Int) (seen : Array Nat) : Int := (if seen.contains 0 then v0 else 0) + (if seen.contains 1 then 2 * v1 else 0) + (if seen.contains 2 then 16 * v2 else 0) + (if seen.contains 3 then 32 * v3 else 0)
theorem psum_bounds {v0 v1 v2 v3 : Int} (h0 : 0 ≤ v0 ∧ v0 ≤ 1) (h1 : 0 ≤ v1 ∧ v1 ≤ 1) (h2 : 0 ≤ v2 ∧ v2 ≤ 1) (h3 : 0 ≤ v3 ∧ v3 ≤ 1) (seen : Array Nat) : 0 ≤ psum v0 v1 v2 v3 seen ∧ psum v0 v1 v2 v3 seen ≤ 51 := by
  unfold psum; split <;> split <;> split <;> split <;> omega
theorem left_ents {v0 v1 v2 v3 : Int} {seen : Array Nat} {e : MapEntry} (h : e ∈ (leftOf (ents v0 v1 v2 v3) seen).toList) :
    seen.contains e.born = false ∧ (e = { key := .int .i64 1, val := .int .i64 v0, born := 0 } ∨ e = { key := .int .i64 2, val := .int .i64 v1, born := 1 } ∨ e = { key := .int .i64 16, val := .int .i64 v2, born := 2 } ∨ e = { key := .int .i64 32, val := .int .i64 v3, born := 3 }) := by
  unfold leftOf ents at h
  rw [Array.mem_toList_iff, Array.mem_filter] at h
  refine ⟨by simpa using h.2, ?_⟩
  have := h.1
  simp only [List.mem_toArray, List.mem_cons, List.not_mem_nil, or_false] at this
  exact this
theorem left_none {v0 v1 v2 v3 : Int} {seen : Array Nat} (h : (leftOf (ents v0 v1 v2 v3) seen).size = 0) : psum v0 v1 v2 v3 seen = v0 + 2 * v1 + 16 * v2 + 32 * v3 := by
  have h := Array.eq_empty_of_size_eq_zero h
  unfold leftOf at h
  rw [Array.filter_eq_empty_iff] at h
  have c : ∀ e ∈ ents v0 v1 v2 v3, seen.contains e.born = true := fun e he => by have := h e he; simpa using this
  have c0 : seen.contains 0 = true := c { key := .int .i64 1, val := .int .i64 v0, born := 0 } (by simp [ents])
  have c1 : seen.contains 1 = true := c { key := .int .i64 2, val := .int .i64 v1, born := 1 } (by simp [ents])
  have c2 : seen.contains 2 = true := c { key := .int .i64 16, val := .int .i64 v2, born := 2 } (by simp [ents])
  have c3 : seen.contains 3 = true := c { key := .int .i64 32, val := .int .i64 v3, born := 3 } (by simp [ents])
  unfold psum
  rw [if_pos c0, if_pos c1, if_pos c2, if_pos c3]
theorem psum_none (v0 v1 v2 v3 : Int) : psum v0 v1 v2 v3 #[] = 0 := by simp [psum]
theorem psum_push0 {v0 v1 v2 v3 : Int} {seen : Array Nat} (h : seen.contains 0 = false) : psum v0 v1 v2 v3 (seen.push 0) = psum v0 v1 v2 v3 seen + 1 * v0 := by
  unfold psum; simp only [Array.contains_push, h]; simp <;> omega
theorem psum_push1 {v0 v1 v2 v3 : Int} {seen : Array Nat} (h : seen.contains 1 = false) : psum v0 v1 v2 v3 (seen.push 1) = psum v0 v1 v2 v3 seen + 2 * v1 := by
  unfold psum; simp only [Array.contains_push, h]; simp <;> omega
theorem psum_push2 {v0 v1 v2 v3 : Int} {seen : Array Nat} (h : seen.contains 2 = false) : psum v0 v1 v2 v3 (seen.push 2) = psum v0 v1 v2 v3 seen + 16 * v2 := by
  unfold psum; simp only [Array.contains_push, h]; simp <;> omega
theorem psum_push3 {v0 v1 v2 v3 : Int} {seen : Array Nat} (h : seen.contains 3 = false) : psum v0 v1 v2 v3 (seen.push 3) = psum v0 v1 v2 v3 seen + 32 * v3 := by
  unfold psum; simp only [Array.contains_push, h]; simp <;> omega
theorem ents_stamped (v0 v1 v2 v3 : Int) : MapKept.Stamped (ents v0 v1 v2 v3) 4 := by
  refine ⟨fun x hx => ?_, by simp [ents], by simp [ents]⟩
  simp only [ents, List.mem_cons, List.not_mem_nil, or_false] at hx
  rcases hx with rfl | rfl | rfl | rfl <;> simp

theorem next_step (v0 v1 v2 v3 : Int) (W2 wr : World) (bm r : Nat) (hbm : W2.heap[bm]? = some (.map (ents v0 v1 v2 v3) 4)) (hr : r = W2.heap.size) (hx : Ext W2 wr) (seen : Array Nat) (hi : wr.heap[r]? = some (.mapIter (some bm) 4 seen 4)) :
    ((leftOf (ents v0 v1 v2 v3) seen).size = 0 ∧ ∀ ty, (Instr.next (.pointer (some ⟨r, 0, none⟩)) false ty).run Tryd.prog wr = .ok (.tuple #[.bool false]) wr) ∨
    ∃ (x v : Int) (wr' : World) (b : Nat), (∀ ty, (Instr.next (.pointer (some ⟨r, 0, none⟩)) false ty).run Tryd.prog wr = .ok (.tuple #[.bool true, .int .i64 x, .int .i64 v]) wr') ∧
      (Instr.entry (.pointer (some ⟨r, 0, none⟩))).run Tryd.prog wr' = .ok (.tuple #[.int .i64 x, .int .i64 v]) wr' ∧ Ext W2 wr' ∧ wr'.heap[r]? = some (.mapIter (some bm) 4 (seen.push b) 4) ∧
      psum v0 v1 v2 v3 (seen.push b) = psum v0 v1 v2 v3 seen + x * v ∧ (leftOf (ents v0 v1 v2 v3) (seen.push b)).size < (leftOf (ents v0 v1 v2 v3) seen).size := by
  have hlt : bm < W2.heap.size := by
    rcases Nat.lt_or_ge bm W2.heap.size with h | h
    · exact h
    · simp [Array.getElem?_eq_none h] at hbm
  have hb : wr.heap[bm]? = some (.map (ents v0 v1 v2 v3) 4) := (hx.block bm hlt).trans hbm
  have st := ents_stamped v0 v1 v2 v3
  rcases run_next_at (P := Tryd.prog) wr 0 r bm 4 4 seen _ 4 hi hb st.1 (Nat.le_refl _) with ⟨h0, hrun⟩ | ⟨e, he, w1, hw1, hrun⟩
  · exact .inl ⟨h0, fun _ => hrun⟩
  · right
    have hr1 : w1.heap[r]? = some (.mapIter (some bm) 4 seen 4) := by rcases hw1 with rfl | rfl <;> exact hi
    have hb1 : w1.heap[bm]? = some (.map (ents v0 v1 v2 v3) 4) := by rcases hw1 with rfl | rfl <;> exact hb
    have hx1 : Ext W2 w1 := by rcases hw1 with rfl | rfl; exact hx; exact hx.drew
    have hset := MapKept.heap_set (o' := .mapIter (some bm) 4 (seen.push e.born) 4) hr1
    have hb2 := (hset.2 bm (by omega)).trans hb1
    have hent := run_entry_at (P := Tryd.prog) (ChangeMaps.setBlock w1 r (.mapIter (some bm) 4 (seen.push e.born) 4)) r bm 4 seen _ 4 e hset.1 hb2 (mem_left he).1 st.2.1
    have hx2 : Ext W2 (ChangeMaps.setBlock w1 r (.mapIter (some bm) 4 (seen.push e.born) 4)) :=
      ⟨hx1.os, hx1.tape, hx1.output, by have := hx1.size; simp [ChangeMaps.setBlock]; exact this, fun i hi => (hset.2 i (by omega)).trans (hx1.block i hi)⟩
    have hsh := left_shrinks (ents v0 v1 v2 v3) seen e he
    obtain ⟨hc, he4⟩ := left_ents he
    have hi2 := hset.1
    change (ChangeMaps.setBlock w1 r (.mapIter (some bm) 4 (seen.push e.born) 4)).heap[r]? = _ at hi2
    generalize ChangeMaps.setBlock w1 r (.mapIter (some bm) 4 (seen.push e.born) 4) = W3 at *
    rcases he4 with rfl | rfl | rfl | rfl
    · exact ⟨_, _, W3, 0, fun _ => hrun, hent, hx2, hi2, psum_push0 hc, hsh⟩
    · exact ⟨_, _, W3, 1, fun _ => hrun, hent, hx2, hi2, psum_push1 hc, hsh⟩
    · exact ⟨_, _, W3, 2, fun _ => hrun, hent, hx2, hi2, psum_push2 hc, hsh⟩
    · exact ⟨_, _, W3, 3, fun _ => hrun, hent, hx2, hi2, psum_push3 hc, hsh⟩
theorem seen_at {w : World} {r : Nat} {a : Option Nat} {b : Nat} {s : Array Nat} {c : Nat} (h : w.heap[r]? = some (.mapIter a b s c)) : w.iterSeen r = s := by unfold World.iterSeen; rw [h]
/-- the world in which the map is ranged over. -/
theorem fits_mem (w : World) (cs : Array Value) (t : TypeId) (es : Array MapEntry) : ∃ W2, W2 = (w.alloc (.cells cs t)).alloc (.map es 4) ∧ W2.heap.size = w.heap.size + 1 + 1 ∧ W2.heap[w.heap.size + 1]? = some (.map es 4) ∧ (∀ j : Nat, W2.cell? ⟨w.heap.size, j, none⟩ = cs[j]?) ∧ Ext w W2 := by
  refine ⟨_, rfl, by rw [asz, asz], by rw [← asz w]; exact heap_alloc_new _ _, fun j => ?_, ((Ext.refl w).alloc _).alloc _⟩
  have := ((Ext.refl (w.alloc (.cells cs t))).alloc (.map es 4)).block w.heap.size (by rw [asz]; omega)
  rw [cell_of_row _ w.heap.size j cs t (0, 0) (this.trans (heap_alloc_new w _))]

set_option maxRecDepth 100000 in
set_option maxHeartbeats 400000 in
theorem fits_in (k : Nat) (i p a0 a1 a2 b0 b1 b2 n m : Int) (v0 v1 v2 v3 T : Int) (fa fb : Bool) (hT : v0 + 2 * v1 + 16 * v2 + 32 * v3 = T) (hfa : decide ([a0, a1, a2] ≠ [0, 0, 0]) = fa) (hfb : decide ([b0, b1, b2] ≠ [0, 0, 0]) = fb) (e0 : min i 1 = v0) (e1 : min p 1 = v1) (e2 : min n 1 = v2) (e3 : min m 1 = v3) (q0 : 0 ≤ v0 ∧ v0 ≤ 1) (q1 : 0 ≤ v1 ∧ v1 ≤ 1) (q2 : 0 ≤ v2 ∧ v2 ≤ 1) (q3 : 0 ≤ v3 ∧ v3 ≤ 1) (hk0 : 0 < k) (hk1 : k < 16) (h0 : a0 ≤ 1099511627776) (h1 : a1 ≤ 1099511627776) (h2 : a2 ≤ 1099511627776) (h3 : b0 ≤ 1099511627776) (h4 : b1 ≤ 1099511627776) (h5 : b2 ≤ 1099511627776) (nd : Int) (w : World) (hla : w.cell? ⟨0, k, none⟩ = some (.int .i64 nd)) :
    Calls Tryd.prog 13 #[.agg #[.int .u8 k, .int .u32 i, .int .u32 p, .int .u64 a0, .int .u64 a1, .int .u64 a2, .int .u64 b0, .int .u64 b1, .int .u64 b2, .int .u64 n, .int .u64 m]] w fun e w' => e = .returned (.bool (bits .andNot .i64 (hasV T fa fb) nd == 0)) ∧ Ext w w' := by
  have hk : ((k : Int) == 0) = false := by rw [beq_eq_false_iff_ne]; omega
  have hk2 : ¬ (16 : Int) ≤ k := by omega
  have HT := Lib.hid hT
  have hqA : ∀ W, (binOp .neq 26 (.agg #[.int .u64 a0, .int .u64 a1, .int .u64 a2]) (.agg #[.int .u64 0, .int .u64 0, .int .u64 0])).run Tryd.prog W = .ok (.bool fa) W := fun W => by
    have := run_neq_ints W Tryd.underlying26 Tryd.underlying24 info_u64.choose_spec (by kernel_rfl) [a0, a1, a2] [0, 0, 0] rfl rfl
    rw [hfa] at this; exact this
  have hqB : ∀ W, (binOp .neq 26 (.agg #[.int .u64 b0, .int .u64 b1, .int .u64 b2]) (.agg #[.int .u64 0, .int .u64 0, .int .u64 0])).run Tryd.prog W = .ok (.bool fb) W := fun W => by
    have := run_neq_ints W Tryd.underlying26 Tryd.underlying24 info_u64.choose_spec (by kernel_rfl) [b0, b1, b2] [0, 0, 0] rfl rfl
    rw [hfb] at this; exact this
  clear hT hfa hfb
  have z0 : wrap64 v0 = v0 := by unfold wrap64; omega
  have z1 : wrap64 v1 = v1 := by unfold wrap64; omega
  have z2 : wrap64 v2 = v2 := by unfold wrap64; omega
  have z3 : wrap64 v3 = v3 := by unfold wrap64; omega
  have hrg := run_range_map (P := Tryd.prog) ((w.alloc (.cells #[.int .u8 k, .int .u32 i, .int .u32 p, .int .u64 a0, .int .u64 a1, .int .u64 a2, .int .u64 b0, .int .u64 b1, .int .u64 b2, .int .u64 n, .int .u64 m] 28)).alloc (.map (ents v0 v1 v2 v3) 4)) 63 3 3 (w.heap.size + 1) (ents v0 v1 v2 v3) 4 Tryd.underlying63 (by rw [← asz w]; exact heap_alloc_new _ _)
  unfold ents at hrg
  rw [show ((w.alloc (.cells #[.int .u8 k, .int .u32 i, .int .u32 p, .int .u64 a0, .int .u64 a1, .int .u64 a2, .int .u64 b0, .int .u64 b1, .int .u64 b2, .int .u64 n, .int .u64 m] 28)).alloc (.map #[{ key := .int .i64 1, val := .int .i64 v0, born := 0 }, { key := .int .i64 2, val := .int .i64 v1, born := 1 }, { key := .int .i64 16, val := .int .i64 v2, born := 2 }, { key := .int .i64 32, val := .int .i64 v3, born := 3 }] 4)).heap.size = w.heap.size + 1 + 1 from by rw [asz, asz]] at hrg
  have hmm := @run_makeMap Tryd.prog
  have hI0 := fun v => ins (w.alloc (.cells #[.int .u8 k, .int .u32 i, .int .u32 p, .int .u64 a0, .int .u64 a1, .int .u64 a2, .int .u64 b0, .int .u64 b1, .int .u64 b2, .int .u64 n, .int .u64 m] 28)) (w.heap.size + 1) (asz _ _).symm 1 v #[] 0 rfl
  have hI1 := fun v => ins (w.alloc (.cells #[.int .u8 k, .int .u32 i, .int .u32 p, .int .u64 a0, .int .u64 a1, .int .u64 a2, .int .u64 b0, .int .u64 b1, .int .u64 b2, .int .u64 n, .int .u64 m] 28)) (w.heap.size + 1) (asz _ _).symm 2 v #[{ key := .int .i64 1, val := .int .i64 v0, born := 0 }] 1 rfl
  have hI2 := fun v => ins (w.alloc (.cells #[.int .u8 k, .int .u32 i, .int .u32 p, .int .u64 a0, .int .u64 a1, .int .u64 a2, .int .u64 b0, .int .u64 b1, .int .u64 b2, .int .u64 n, .int .u64 m] 28)) (w.heap.size + 1) (asz _ _).symm 16 v #[{ key := .int .i64 1, val := .int .i64 v0, born := 0 }, { key := .int .i64 2, val := .int .i64 v1, born := 1 }] 2 rfl
  have hI3 := fun v => ins (w.alloc (.cells #[.int .u8 k, .int .u32 i, .int .u32 p, .int .u64 a0, .int .u64 a1, .int .u64 a2, .int .u64 b0, .int .u64 b1, .int .u64 b2, .int .u64 n, .int .u64 m] 28)) (w.heap.size + 1) (asz _ _).symm 32 v #[{ key := .int .i64 1, val := .int .i64 v0, born := 0 }, { key := .int .i64 2, val := .int .i64 v1, born := 1 }, { key := .int .i64 16, val := .int .i64 v2, born := 2 }] 3 rfl
  simp only [List.push_toArray, List.cons_append, List.nil_append, Nat.reduceAdd] at hI0 hI1 hI2 hI3
  go_enter Tryd.func13, Tryd.ntmps13
  go_wp2_with (fail)
  go_loopw [16] (fun s wr => ∃ j : Nat, j ≤ 3 ∧ s = .int .i64 j ∧ wr = w.alloc (.cells #[.int .u8 k, .int .u32 i, .int .u32 p, .int .u64 a0, .int .u64 a1, .int .u64 a2, .int .u64 b0, .int .u64 b1, .int .u64 b2, .int .u64 n, .int .u64 m] 28)) (fun s _ => 3 - (intOf s).toNat)
  case atStart => exact ⟨0, by omega, rfl, rfl⟩
  case round =>
    obtain ⟨j, hj, rfl, rfl⟩ := hrel
    rcases (show j = 0 ∨ j = 1 ∨ j = 2 ∨ j = 3 by omega) with rfl | rfl | rfl | rfl
    case inl =>
      go_wp2_with (fail)
      go_roundw
      case rel => exact ⟨1, by omega, by first | rfl | trivial, by first | rfl | trivial⟩
      case measure => simp [intOf]
    case inr.inl =>
      go_wp2_with (fail)
      go_roundw
      case rel => exact ⟨2, by omega, by first | rfl | trivial, by first | rfl | trivial⟩
      case measure => simp [intOf]
    case inr.inr.inl =>
      go_wp2_with (fail)
      go_roundw
      case rel => exact ⟨3, by omega, by first | rfl | trivial, by first | rfl | trivial⟩
      case measure => simp [intOf]
    case inr.inr.inr =>
      go_wp2_with (fail)
      clear hI0 hI1 hI2 hI3 hmm hrg
      obtain ⟨W2, hW2, hs2, hb2, hc2, hx2⟩ := fits_mem w #[.int .u8 k, .int .u32 i, .int .u32 p, .int .u64 a0, .int .u64 a1, .int .u64 a2, .int .u64 b0, .int .u64 b1, .int .u64 b2, .int .u64 n, .int .u64 m] 28 (ents v0 v1 v2 v3)
      unfold ents at hW2
      rw [← hW2]
      clear hW2
      have Hs2 := Lib.hid hs2
      have Hc2 := Lib.hid hc2
      have Hb2 := Lib.hid hb2
      clear hs2 hc2 hb2
      go_loopw [4] (fun s wr => ∃ seen, Ext W2 wr ∧ wr.heap[w.heap.size + 1 + 1]? = some (.mapIter (some (w.heap.size + 1)) 4 seen 4) ∧ s = .int .i64 (psum v0 v1 v2 v3 seen)) (fun _ wr => (leftOf (ents v0 v1 v2 v3) (wr.iterSeen (w.heap.size + 1 + 1))).size)
      case atStart => exact ⟨#[], (Ext.refl _).alloc _, by rw [← Hs2.out]; exact heap_alloc_new _ _, by rw [psum_none]⟩
      case round =>
        obtain ⟨seen, hxr, hir, rfl⟩ := hrel
        rcases next_step v0 v1 v2 v3 W2 wr _ _ Hb2.out Hs2.out.symm hxr seen hir with ⟨h0, hnx⟩ | ⟨x, v, w3, b, hnx, hen, hx3, hi3, hps, hsh⟩
        · have hp := (left_none h0).trans HT.out
          rw [hp]
          have cl : ∀ j : Nat, wr.cell? ⟨w.heap.size, j, none⟩ = _ := fun j => (Below.cell hxr (by show w.heap.size < W2.heap.size; rw [Hs2.out]; omega)).trans (Hc2.out j)
          have c0 : wr.cell? ⟨w.heap.size, 0, none⟩ = some (.int .u8 k) := cl 0
          have c3 : wr.cell? ⟨w.heap.size, 3, none⟩ = some (.int .u64 a0) := cl 3
          have c4 : wr.cell? ⟨w.heap.size, 4, none⟩ = some (.int .u64 a1) := cl 4
          have c5 : wr.cell? ⟨w.heap.size, 5, none⟩ = some (.int .u64 a2) := cl 5
          have c6 : wr.cell? ⟨w.heap.size, 6, none⟩ = some (.int .u64 b0) := cl 6
          have c7 : wr.cell? ⟨w.heap.size, 7, none⟩ = some (.int .u64 b1) := cl 7
          have c8 : wr.cell? ⟨w.heap.size, 8, none⟩ = some (.int .u64 b2) := cl 8
          have cg : wr.cell? ⟨0, k, none⟩ = some (.int .i64 nd) := (Below.cell (hx2.trans hxr) (World.block_lt_of_cell? w _ hla)).trans hla
          clear cl hp h0 hir
          have hx := hx2.trans hxr
          cases fa <;> cases fb
          all_goals
            go_wp2_with (fail)
            go_ret
            exact ⟨by first | rfl | trivial, hx⟩
        · have hb := psum_bounds q0 q1 q2 q3 (seen.push b)
          rw [hps] at hb
          have hsh' : (leftOf (ents v0 v1 v2 v3) (w3.iterSeen (w.heap.size + 1 + 1))).size < (leftOf (ents v0 v1 v2 v3) (wr.iterSeen (w.heap.size + 1 + 1))).size := by rw [seen_at hi3, seen_at hir]; exact hsh
          have Hps := Lib.hid hps
          have Hsh := Lib.hid hsh'
          clear hps hsh hsh' hir
          have hb0 := psum_bounds q0 q1 q2 q3 seen
          generalize psum v0 v1 v2 v3 seen = ps at *
          go_wp2_with (fail)
          go_roundw
          case rel => exact ⟨seen.push b, hx3, hi3, by rw [Hps.out]⟩
          case measure => exact Hsh.out

set_option maxRecDepth 100000 in
set_option maxHeartbeats 400000 in
theorem fits_bad (k : Nat) (i p a0 a1 a2 b0 b1 b2 n m : Int) (hk : k = 0 ∨ 16 ≤ k) (hk255 : k ≤ 255) (w : World) :
    Calls Tryd.prog 13 #[.agg #[.int .u8 k, .int .u32 i, .int .u32 p, .int .u64 a0, .int .u64 a1, .int .u64 a2, .int .u64 b0, .int .u64 b1, .int .u64 b2, .int .u64 n, .int .u64 m]] w fun e w' => e = .returned (.bool false) ∧ Ext w w' := by
  by_cases h0 : k = 0
  · subst h0
    go_enter Tryd.func13, Tryd.ntmps13
    go_wp2_with (fail)
    go_ret
    exact ⟨by first | rfl | trivial, (Ext.refl w).alloc _⟩
  · have h1 : ((k : Int) == 0) = false := by rw [beq_eq_false_iff_ne]; omega
    have h2 : (16 : Int) ≤ k := by omega
    have h3 : ¬ (k : Int) = 0 := by omega
    go_enter Tryd.func13, Tryd.ntmps13
    go_wp2_with (fail)
    go_ret
    exact ⟨by first | rfl | trivial, (Ext.refl w).alloc _⟩

set_option maxRecDepth 100000 in
set_option maxHeartbeats 400000 in
theorem fits_over (k : Nat) (i p a0 a1 a2 b0 b1 b2 n m : Int) (hk0 : 0 < k) (hk1 : k < 16) (hb : ¬ (a0 ≤ 1099511627776 ∧ a1 ≤ 1099511627776 ∧ a2 ≤ 1099511627776 ∧ b0 ≤ 1099511627776 ∧ b1 ≤ 1099511627776 ∧ b2 ≤ 1099511627776)) (w : World) :
    Calls Tryd.prog 13 #[.agg #[.int .u8 k, .int .u32 i, .int .u32 p, .int .u64 a0, .int .u64 a1, .int .u64 a2, .int .u64 b0, .int .u64 b1, .int .u64 b2, .int .u64 n, .int .u64 m]] w fun e w' => e = .returned (.bool false) ∧ Ext w w' := by
  have hk : ((k : Int) == 0) = false := by rw [beq_eq_false_iff_ne]; omega
  have hk2 : ¬ (16 : Int) ≤ k := by omega
  have Hb := Lib.hid hb
  clear hb
  go_enter Tryd.func13, Tryd.ntmps13
  go_wp2_with (fail)
  go_loopw [16] (fun s wr => ∃ j : Nat, j ≤ 3 ∧ s = .int .i64 j ∧ wr = w.alloc (.cells #[.int .u8 k, .int .u32 i, .int .u32 p, .int .u64 a0, .int .u64 a1, .int .u64 a2, .int .u64 b0, .int .u64 b1, .int .u64 b2, .int .u64 n, .int .u64 m] 28) ∧ Hid ((0 < j → a0 ≤ 1099511627776 ∧ b0 ≤ 1099511627776) ∧ (1 < j → a1 ≤ 1099511627776 ∧ b1 ≤ 1099511627776) ∧ (2 < j → a2 ≤ 1099511627776 ∧ b2 ≤ 1099511627776))) (fun s _ => 3 - (intOf s).toNat)
  case atStart => exact ⟨0, by omega, rfl, rfl, Lib.hid ⟨fun h => by omega, fun h => by omega, fun h => by omega⟩⟩
  case round =>
    obtain ⟨j, hj, rfl, rfl, ho⟩ := hrel
    rcases (show j = 0 ∨ j = 1 ∨ j = 2 ∨ j = 3 by omega) with rfl | rfl | rfl | rfl
    case inl =>
      by_cases c0 : a0 ≤ 1099511627776 ∧ b0 ≤ 1099511627776
      · obtain ⟨c1, c2⟩ := c0
        go_wp2_with (fail)
        go_roundw
        case rel => exact ⟨1, by omega, by first | rfl | trivial, by first | rfl | trivial, Lib.hid ⟨fun _ => ⟨c1, c2⟩, fun h => by omega, fun h => by omega⟩⟩
        case measure => simp [intOf]
      · by_cases c1 : a0 ≤ 1099511627776
        · have c2 : ¬ b0 ≤ 1099511627776 := fun h => c0 ⟨c1, h⟩
          go_wp2_with (fail)
          go_ret
          exact ⟨by first | rfl | trivial, (Ext.refl w).alloc _⟩
        · go_wp2_with (fail)
          go_ret
          exact ⟨by first | rfl | trivial, (Ext.refl w).alloc _⟩
    case inr.inl =>
      have ho1 := ho.out.1 (by omega)
      have Ho1 := Lib.hid ho1
      clear ho1
      by_cases c0 : a1 ≤ 1099511627776 ∧ b1 ≤ 1099511627776
      · obtain ⟨c1, c2⟩ := c0
        go_wp2_with (fail)
        go_roundw
        case rel => exact ⟨2, by omega, by first | rfl | trivial, by first | rfl | trivial, Lib.hid ⟨fun _ => Ho1.out, fun h => ⟨c1, c2⟩, fun h => by omega⟩⟩
        case measure => simp [intOf]
      · by_cases c1 : a1 ≤ 1099511627776
        · have c2 : ¬ b1 ≤ 1099511627776 := fun h => c0 ⟨c1, h⟩
          go_wp2_with (fail)
          go_ret
          exact ⟨by first | rfl | trivial, (Ext.refl w).alloc _⟩
        · go_wp2_with (fail)
          go_ret
          exact ⟨by first | rfl | trivial, (Ext.refl w).alloc _⟩
    case inr.inr.inl =>
      by_cases c0 : a2 ≤ 1099511627776 ∧ b2 ≤ 1099511627776
      · exact absurd ⟨(ho.out.1 (by omega)).1, (ho.out.2.1 (by omega)).1, c0.1, (ho.out.1 (by omega)).2, (ho.out.2.1 (by omega)).2, c0.2⟩ Hb.out
      · by_cases c1 : a2 ≤ 1099511627776
        · have c2 : ¬ b2 ≤ 1099511627776 := fun h => c0 ⟨c1, h⟩
          go_wp2_with (fail)
          go_ret
          exact ⟨by first | rfl | trivial, (Ext.refl w).alloc _⟩
        · go_wp2_with (fail)
          go_ret
          exact ⟨by first | rfl | trivial, (Ext.refl w).alloc _⟩
    case inr.inr.inr =>
      exact absurd ⟨(ho.out.1 (by omega)).1, (ho.out.2.1 (by omega)).1, (ho.out.2.2 (by omega)).1, (ho.out.1 (by omega)).2, (ho.out.2.1 (by omega)).2, (ho.out.2.2 (by omega)).2⟩ Hb.out

/-- what is asked, as numbers. -/
structure Ask where
  k : Nat
  i : Int
  p : Int
  a0 : Int
  a1 : Int
  a2 : Int
  b0 : Int
  b1 : Int
  b2 : Int
  n : Int
  m : Int
def Ask.cells (x : Ask) : List Value := [.int .u8 x.k, .int .u32 x.i, .int .u32 x.p, .int .u64 x.a0, .int .u64 x.a1, .int .u64 x.a2, .int .u64 x.b0, .int .u64 x.b1, .int .u64 x.b2, .int .u64 x.n, .int .u64 x.m]
structure Ask.Wf (x : Ask) : Prop where
  k : x.k ≤ 255
  i : 0 ≤ x.i ∧ x.i < 4294967296
  p : 0 ≤ x.p ∧ x.p < 4294967296
  a0 : 0 ≤ x.a0 ∧ x.a0 < 18446744073709551616
  a1 : 0 ≤ x.a1 ∧ x.a1 < 18446744073709551616
  a2 : 0 ≤ x.a2 ∧ x.a2 < 18446744073709551616
  b0 : 0 ≤ x.b0 ∧ x.b0 < 18446744073709551616
  b1 : 0 ≤ x.b1 ∧ x.b1 < 18446744073709551616
  b2 : 0 ≤ x.b2 ∧ x.b2 < 18446744073709551616
  n : 0 ≤ x.n ∧ x.n < 18446744073709551616
  m : 0 ≤ x.m ∧ x.m < 18446744073709551616
def Ask.has (x : Ask) : Int := hasV (min x.i 1 + 2 * min x.p 1 + 16 * min x.n 1 + 32 * min x.m 1) (decide ([x.a0, x.a1, x.a2] ≠ [0, 0, 0])) (decide ([x.b0, x.b1, x.b2] ≠ [0, 0, 0]))
def Ask.small (x : Ask) : Prop := x.a0 ≤ 1099511627776 ∧ x.a1 ≤ 1099511627776 ∧ x.a2 ≤ 1099511627776 ∧ x.b0 ≤ 1099511627776 ∧ x.b1 ≤ 1099511627776 ∧ x.b2 ≤ 1099511627776
instance (x : Ask) : Decidable x.small := by unfold Ask.small; infer_instance
/-- may it be asked? -/
def Ask.fits (x : Ask) : Bool := decide (0 < x.k ∧ x.k < 16) && decide x.small && (bits .andNot .i64 x.has (need x.k) == 0)

theorem fits_any (x : Ask) (hx : x.Wf) (w : World) (hla : Laid w) :
    Calls Tryd.prog 13 #[.agg x.cells.toArray] w fun e w' => e = .returned (.bool x.fits) ∧ Ext w w' := by
  obtain ⟨k, i, p, a0, a1, a2, b0, b1, b2, n, m⟩ := x
  by_cases hk : 0 < k ∧ k < 16
  · by_cases hs : Ask.small ⟨k, i, p, a0, a1, a2, b0, b1, b2, n, m⟩
    · obtain ⟨h0, h1, h2, h3, h4, h5⟩ := id hs
      have q0 := hx.i; have q1 := hx.p; have q2 := hx.n; have q3 := hx.m
      simp only at q0 q1 q2 q3
      refine (fits_in k i p a0 a1 a2 b0 b1 b2 n m _ _ _ _ _ _ _ rfl rfl rfl rfl rfl rfl rfl (by omega) (by omega) (by omega) (by omega) hk.1 hk.2 h0 h1 h2 h3 h4 h5 (need k) w (hla k hk.2)).mono ?_
      rintro e w' ⟨rfl, h⟩
      refine ⟨?_, h⟩
      unfold Ask.fits Ask.has
      rw [decide_eq_true hk, decide_eq_true hs]
      rfl
    · refine (fits_over k i p a0 a1 a2 b0 b1 b2 n m hk.1 hk.2 hs w).mono ?_
      rintro e w' ⟨rfl, h⟩
      refine ⟨?_, h⟩
      unfold Ask.fits
      rw [decide_eq_false hs]
      simp
  · refine (fits_bad k i p a0 a1 a2 b0 b1 b2 n m (by omega) hx.k w).mono ?_
    rintro e w' ⟨rfl, h⟩
    refine ⟨?_, h⟩
    unfold Ask.fits
    rw [decide_eq_false hk]
    rfl
end Go.Proofs.YtnpcpmiomimphaaDoor
namespace Go.Proofs.YtnpcpmiomimphaaDoor
open Go.RowKit

def Ask.may (x : Ask) (e : Int) : Bool := x.fits && (decide (x.k ≤ 9) && (decide (x.n ≤ 1099511627776) && (e == 0 || (e == 10 && (bits .and .i64 (need x.k) 64 != 0)))))

theorem box_cell (w : World) (cs : Array Value) (t : TypeId) (j : Nat) : (w.alloc (.cells cs t)).cell? ⟨w.heap.size, j, none⟩ = cs[j]? := by
  rw [cell_of_row _ w.heap.size j cs t (0, 0) (heap_alloc_new w _)]
theorem Laid.ext {w w' : World} (h : Laid w) (hx : Ext w w') : Laid w' := fun k hk => (Below.cell hx (World.block_lt_of_cell? w _ (h k hk))).trans (h k hk)

set_option maxRecDepth 100000 in
set_option maxHeartbeats 1000000 in
theorem may_walk (k : Nat) (i p a0 a1 a2 b0 b1 b2 n m e : Int) (hx : (Ask.mk k i p a0 a1 a2 b0 b1 b2 n m).Wf) (f : Bool) (nd : Int) (hf : (Ask.mk k i p a0 a1 a2 b0 b1 b2 n m).fits = f) (hnd : need k = nd) (w : World) (hla : Laid w) :
    Calls Tryd.prog 20 #[.agg #[.int .u8 k, .int .u32 i, .int .u32 p, .int .u64 a0, .int .u64 a1, .int .u64 a2, .int .u64 b0, .int .u64 b1, .int .u64 b2, .int .u64 n, .int .u64 m, .int .i64 e]] w fun r w' => r = .returned (.bool (f && (decide (k ≤ 9) && (decide (n ≤ 1099511627776) && (e == 0 || (e == 10 && (bits .and .i64 nd 64 != 0))))))) ∧ Ext w w' := by
  have hcall := fun W (hW : Laid W) => fits_any (Ask.mk k i p a0 a1 a2 b0 b1 b2 n m) hx W hW
  rw [hf] at hcall
  have Hcall := Lib.hid hcall
  clear hcall
  go_enter Tryd.func20, Tryd.ntmps20
  go_wp2_with (fail)
  have hb := box_cell w #[.int .u8 k, .int .u32 i, .int .u32 p, .int .u64 a0, .int .u64 a1, .int .u64 a2, .int .u64 b0, .int .u64 b1, .int .u64 b2, .int .u64 n, .int .u64 m, .int .i64 e] 31
  refine (Hcall.out _ (hla.ext ((Ext.refl w).alloc _))).mono ?_
  rintro r w1 ⟨rfl, x1⟩
  have cl := fun j : Nat => (Below.cell x1 (by show w.heap.size < _; rw [asz]; omega)).trans (hb j)
  have c0 : w1.cell? ⟨w.heap.size, 0, none⟩ = some (.int .u8 k) := cl 0
  have c9 : w1.cell? ⟨w.heap.size, 9, none⟩ = some (.int .u64 n) := cl 9
  have c11 : w1.cell? ⟨w.heap.size, 11, none⟩ = some (.int .i64 e) := cl 11
  have hx1 := ((Ext.refl w).alloc _).trans x1
  clear cl hb Hcall
  have hfk : (Ask.mk k i p a0 a1 a2 b0 b1 b2 n m).fits = true → k < 16 := fun h => by
    simp only [Ask.fits, Bool.and_eq_true, decide_eq_true_eq] at h; exact h.1.1.2
  rw [hf] at hfk
  clear hf
  cases f with
  | false =>
    go_wp2_with (fail)
    go_ret
    exact ⟨by first | rfl | trivial, hx1⟩
  | true =>
    have hk16 := hfk rfl
    have cg : w1.cell? ⟨0, k, none⟩ = some (.int .i64 (need k)) := (Below.cell hx1 (World.block_lt_of_cell? w _ (hla k hk16))).trans (hla k hk16)
    rw [hnd] at cg
    clear hfk hla hx hnd
    by_cases h9 : (k : Int) ≤ 9
    · have h9' : k ≤ 9 := by omega
      by_cases hn : n ≤ 1099511627776
      · by_cases he : e = 0
        · subst he
          go_wp2_with (fail)
          go_ret
          exact ⟨by simp [h9', hn], hx1⟩
        · have he1 : (e == 0) = false := by simp [he]
          by_cases he2 : e = 10
          · subst he2
            go_wp2_with (fail)
            go_ret
            exact ⟨by simp [h9', hn], hx1⟩
          · have he3 : (e == 10) = false := by simp [he2]
            go_wp2_with (fail)
            go_ret
            exact ⟨by simp [h9', hn, he, he2], hx1⟩
      · go_wp2_with (fail)
        go_ret
        exact ⟨by rw [decide_eq_false (show ¬ n ≤ 1099511627776 by omega)]; simp, hx1⟩
    · have h9' : ¬ k ≤ 9 := by omega
      go_wp2_with (fail)
      go_ret
      exact ⟨by simp [h9'], hx1⟩
set_option maxRecDepth 100000 in
theorem may_any (x : Ask) (e : Int) (hx : x.Wf) (w : World) (hla : Laid w) :
    Calls Tryd.prog 20 #[.agg (x.cells ++ [Value.int .i64 e]).toArray] w fun r w' => r = .returned (.bool (x.may e)) ∧ Ext w w' :=
  may_walk _ _ _ _ _ _ _ _ _ _ _ e hx _ _ rfl rfl w hla
end Go.Proofs.YtnpcpmiomimphaaDoor
namespace Go.Proofs.YtnpcpmiomimphaaDoor
open Go.RowKit
attribute [local go_sem ↓] Go.wp_at_zero Go.wp_at_succ

/-- an event's bytes. -/
def evB (x : Ask) (e : Int) : List UInt8 :=
  [UInt8.ofNat x.k, UInt8.ofNat e.toNat] ++ be 4 x.i.toNat ++ be 4 x.p.toNat ++ be 8 x.a0.toNat ++ be 8 x.a1.toNat ++ be 8 x.a2.toNat ++ be 8 x.b0.toNat ++ be 8 x.b1.toNat ++ be 8 x.b2.toNat ++ be 8 x.n.toNat

def L0 (k i p : Nat) (e : Int) : List UInt8 := [UInt8.ofNat k, UInt8.ofNat e.toNat] ++ be 4 i ++ be 4 p
def amt (l : List Nat) (j : Nat) : List UInt8 := (l.take j).flatMap (be 8)
theorem amt_zero (l : List Nat) : amt l 0 = [] := rfl
theorem amt_succ {l : List Nat} {j v : Nat} (h : l[j]? = some v) : amt l j ++ be 8 v = amt l (j + 1) := by
  unfold amt; rw [List.take_add_one, h]; simp
theorem put_len {w w' : World} {A A' : Option Addr} {m c m' c' v : Nat} {l : List UInt8} (h : Rd w 1 A m c (bvs l)) (h' : Rd w' 1 A' m' c' (bvs (l ++ be 8 v))) : m' = m + 8 := by
  have h1 := h.blen
  have h2 := h'.blen
  rw [List.length_append, be_length, h1] at h2
  omega
theorem cell_ext {w w' : World} (h : Ext w w') {p : Addr} {v : Value} (hc : w.cell? p = some v) : w'.cell? p = some v := (Below.cell h (World.block_lt_of_cell? w _ hc)).trans hc
theorem may_err {x : Ask} {e : Int} (h : x.may e = true) : e = 0 ∨ e = 10 := by
  simp only [Ask.may, Bool.and_eq_true, Bool.or_eq_true, beq_iff_eq] at h
  rcases h.2.2.2 with h | h
  · exact .inl h
  · exact .inr h.1
theorem put_mem (w w1 : World) (v0 v11 : Value) (t : TypeId) (c0 : w1.cell? ⟨w.heap.size, 0, none⟩ = some v0) (c11 : w1.cell? ⟨w.heap.size, 11, none⟩ = some v11) (cs : Array Value) :
    ∃ W3, W3 = w1.alloc (.cells cs t) ∧ W3.heap.size = w1.heap.size + 1 ∧ Ext w1 W3 ∧ W3.cell? ⟨w.heap.size, 11, none⟩ = some v11 ∧ ∀ j : Nat, W3.cell? ⟨w1.heap.size, j, none⟩ = cs[j]? := by
  refine ⟨_, rfl, asz _ _, (Ext.refl w1).alloc _, (Below.cell ((Ext.refl w1).alloc _) (World.block_lt_of_cell? w1 _ c11)).trans c11, fun j => box_cell _ _ _ _⟩

set_option maxRecDepth 100000 in
set_option maxHeartbeats 1000000 in
theorem evPut_no (k : Nat) (i p a0 a1 a2 b0 b1 b2 n m e : Int) (hx : (Ask.mk k i p a0 a1 a2 b0 b1 b2 n m).Wf) (hm : (Ask.mk k i p a0 a1 a2 b0 b1 b2 n m).may e = false) (w : World) (hla : Laid w) :
    Calls Tryd.prog 8 #[.agg #[.int .u8 k, .int .u32 i, .int .u32 p, .int .u64 a0, .int .u64 a1, .int .u64 a2, .int .u64 b0, .int .u64 b1, .int .u64 b2, .int .u64 n, .int .u64 m, .int .i64 e]] w fun r w' => r = .returned (.tuple #[.slice none 0 0, .int .i64 1]) ∧ Ext w w' := by
  have hcall := fun W (hW : Laid W) => may_any (Ask.mk k i p a0 a1 a2 b0 b1 b2 n m) e hx W hW
  rw [hm] at hcall
  have Hcall := Lib.hid hcall
  clear hcall hm
  go_enter Tryd.func8, Tryd.ntmps8
  go_wp2_with (fail)
  refine (Hcall.out _ (hla.ext ((Ext.refl w).alloc _))).mono ?_
  rintro r w1 ⟨rfl, x1⟩
  have hx1 := ((Ext.refl w).alloc _).trans x1
  go_wp2_with (fail)
  go_ret2
  exact ⟨by first | rfl | trivial, hx1⟩

set_option maxRecDepth 100000 in
set_option maxHeartbeats 1000000 in
theorem evPut_yes (k i p a0 a1 a2 b0 b1 b2 n : Nat) (m e : Int) (hx : (Ask.mk k i p a0 a1 a2 b0 b1 b2 n m).Wf) (hm : (Ask.mk k i p a0 a1 a2 b0 b1 b2 n m).may e = true) (w : World) (hla : Laid w) :
    Calls Tryd.prog 8 #[.agg #[.int .u8 k, .int .u32 i, .int .u32 p, .int .u64 a0, .int .u64 a1, .int .u64 a2, .int .u64 b0, .int .u64 b1, .int .u64 b2, .int .u64 n, .int .u64 m, .int .i64 e]] w fun r w' => ∃ A c, r = .returned (.tuple #[.slice A 66 c, .int .i64 0]) ∧ w'.ownsRow w.heap.size 5 1 (.slice A 66 c) 66 (bvs (L0 k i p e ++ amt [a0, a1, a2, b0, b1, b2] 6 ++ be 8 n)) ∧ Ext w w' := by
  have hcall := fun W (hW : Laid W) => may_any (Ask.mk k i p a0 a1 a2 b0 b1 b2 n m) e hx W hW
  rw [hm] at hcall
  have Hcall := Lib.hid hcall
  have he := may_err hm
  clear hcall hm
  have hwi : IntKind.u64.wrap (i : Int) = (i : Int) := by rw [IntKind.wrap_u64]; have := hx.i; simp only at this; omega
  have hwp : IntKind.u64.wrap (p : Int) = (p : Int) := by rw [IntKind.wrap_u64]; have := hx.p; simp only at this; omega
  go_enter Tryd.func8, Tryd.ntmps8
  go_wp2_with (fail)
  refine (Hcall.out _ (hla.ext ((Ext.refl w).alloc _))).mono ?_
  rintro r w1 ⟨rfl, x1⟩
  have hb := box_cell w #[.int .u8 k, .int .u32 i, .int .u32 p, .int .u64 a0, .int .u64 a1, .int .u64 a2, .int .u64 b0, .int .u64 b1, .int .u64 b2, .int .u64 n, .int .u64 m, .int .i64 e] 31
  have cl := fun j : Nat => (Below.cell x1 (by show w.heap.size < _; rw [asz]; omega)).trans (hb j)
  have c0 : w1.cell? ⟨w.heap.size, 0, none⟩ = some (.int .u8 k) := cl 0
  have c1 : w1.cell? ⟨w.heap.size, 1, none⟩ = some (.int .u32 i) := cl 1
  have c2 : w1.cell? ⟨w.heap.size, 2, none⟩ = some (.int .u32 p) := cl 2
  have c3 : w1.cell? ⟨w.heap.size, 3, none⟩ = some (.int .u64 a0) := cl 3
  have c4 : w1.cell? ⟨w.heap.size, 4, none⟩ = some (.int .u64 a1) := cl 4
  have c5 : w1.cell? ⟨w.heap.size, 5, none⟩ = some (.int .u64 a2) := cl 5
  have c6 : w1.cell? ⟨w.heap.size, 6, none⟩ = some (.int .u64 b0) := cl 6
  have c7 : w1.cell? ⟨w.heap.size, 7, none⟩ = some (.int .u64 b1) := cl 7
  have c8 : w1.cell? ⟨w.heap.size, 8, none⟩ = some (.int .u64 b2) := cl 8
  have c9 : w1.cell? ⟨w.heap.size, 9, none⟩ = some (.int .u64 n) := cl 9
  have c10 : w1.cell? ⟨w.heap.size, 10, none⟩ = some (.int .u64 m) := cl 10
  have c11 : w1.cell? ⟨w.heap.size, 11, none⟩ = some (.int .i64 e) := cl 11
  have hx1 := ((Ext.refl w).alloc _).trans x1
  clear cl hb Hcall
  go_upto_region 4 with fail
  obtain ⟨W3, hW3, hs3, hx3, cB, cD⟩ := put_mem w w1 _ _ 28 c0 c11 #[.int .u8 k, .int .u32 i, .int .u32 p, .int .u64 a0, .int .u64 a1, .int .u64 a2, .int .u64 b0, .int .u64 b1, .int .u64 b2, .int .u64 n, .int .u64 m]
  rw [← hW3]
  have Hx := Lib.hid hx
  clear hs3 hW3 c0 c1 c2 c3 c4 c5 c6 c7 c8 c9 c10 c11 hx x1
  replace hx3 := hx1.trans hx3
  clear hx1 hla
  generalize w.heap.size = B at *
  generalize w1.heap.size = D at *
  have hw8 : IntKind.u8.wrap e = e := by rw [IntKind.wrap_u8]; rcases he with rfl | rfl <;> rfl
  have hZ0 : ∃ Z : Array Value, (∀ W, (Instr.makeSlice 32 (.int .i64 0) (.int .i64 66)).run Tryd.prog W = .ok (.slice (some ⟨W.heap.size, 0, none⟩) 0 66) (W.alloc (.cells Z 5))) ∧ Z.size = 66 * 1 :=
    ⟨_, fun W => run_mk Tryd.underlying32 info_u8 0 66 (by omega) (by omega) (by omega) W, by exact madeCells_size 1 _ _⟩
  obtain ⟨Z, hmk, hZ⟩ := hZ0
  have oA := (own_ext (own_made W3.drew Z 5 66 1 W3.heap.size hZ (by simp [maxLen]) (Nat.le_refl _)) ((Ext.refl _).alloc (.cells #[.int .u8 k, .int .u8 e] 5)))
  have oB := own_made (W3.drew.alloc (.cells #[.int .u8 k, .int .u8 e] 5)) Z 5 66 1 W3.heap.size hZ (by simp [maxLen]) (by rw [asz]; exact Nat.le_succ _)
  have hlit : #[Value.int .u8 k, .int .u8 e] = (bvs [UInt8.ofNat k, UInt8.ofNat e.toNat]).toArray := by
    unfold bvs bv
    have h1 : ((UInt8.ofNat k).toNat : Int) = k := by rw [UInt8.toNat_ofNat']; have := Hx.out.k; simp only at this; omega
    have h2 : ((UInt8.ofNat e.toNat).toNat : Int) = e := by rcases he with rfl | rfl <;> rfl
    simp only [List.map_cons, List.map_nil, h1, h2]
  have rA := rd_lit (W3.drew.alloc (.cells Z 5)) _ _ 5 2 hlit rfl (by omega)
  have rB := (rd_lit W3.drew _ _ 5 2 hlit rfl (by omega)).alloc (.cells Z 5)
  rw [asz] at rA oB
  have cD0 : W3.cell? ⟨D, 0, none⟩ = some (.int .u8 k) := cD 0
  have hS : ∀ W, Ext W3 W → Ext W3 W ∧ W.cell? ⟨D, 0, none⟩ = some (.int .u8 k) ∧ W.cell? ⟨B, 11, none⟩ = some (.int .i64 e) := fun W h => ⟨h, (Below.cell h (World.block_lt_of_cell? W3 _ cD0)).trans cD0, (Below.cell h (World.block_lt_of_cell? W3 _ cB)).trans cB⟩
  have HS := Lib.hid hS
  have HcD := Lib.hid cD
  clear hlit hZ hS cD cB cD0
  have t1 : 0 + 2 ≤ maxLen := by unfold maxLen; omega
  have t3 : ∀ o1 o2, W3.heap.size ≤ ((W3.drew.alloc o1).alloc o2).heap.size := fun o1 o2 => by rw [asz, asz]; exact Nat.le_succ_of_le (Nat.le_succ _)
  go_cut [5] (fun s5 wx => ∃ A c, s5 = .slice A 2 c ∧ wx.ownsRow W3.heap.size 5 1 (.slice A 2 c) 2 (bvs [UInt8.ofNat k, UInt8.ofNat e.toNat]) ∧ Ext W3 wx)
  case first =>
    go_region_held3 (fun W => Ext W3 W ∧ W.cell? ⟨D, 0, none⟩ = some (.int .u8 k) ∧ W.cell? ⟨B, 11, none⟩ = some (.int .i64 e)) ((refine HS.out _ ?_; first | assumption | exact (Ext.refl _).drew | exact (Ext.refl _).drew.alloc _ | exact ((Ext.refl _).drew.alloc _).alloc _))
      (first
        | (refine step_append rfl (.tmp 13) (.tmp 19) _ rfl Tryd.underlying32 info_u8 rfl (by decide) rfl rfl oA rA (bvs_oneCell _) t1 (by omega) (t3 _ _) ?_; intro A4 n4 c4 w4 hn4 ho4 hg4 _; have x4 : Ext W3 w4 := (((Ext.refl _).drew.alloc _).alloc _).grown hg4 (own_block_ge oA))
        | (refine step_append rfl (.tmp 13) (.tmp 19) _ rfl Tryd.underlying32 info_u8 rfl (by decide) rfl rfl oB rB (bvs_oneCell _) t1 (by omega) (t3 _ _) ?_; intro A4 n4 c4 w4 hn4 ho4 hg4 _; have x4 : Ext W3 w4 := (((Ext.refl _).drew.alloc _).alloc _).grown hg4 (own_block_ge oB)))
    all_goals
      obtain rfl := hn4.out
      go_wp2_with (fail)
      go_meet
      exact ⟨_, _, rfl, ho4, x4⟩
  case rest =>
    obtain ⟨A, c, rfl, ho, hx5⟩ := hcut
    have hL := (Rd.of_own ho).blen
    have r0 := Rd.of_own ho
    have t5 := hx5.size
    clear hmk oA oB rA rB t1 t3 ho hL
    have cD1 : wc.cell? ⟨D, 1, none⟩ = some (.int .u32 i) := cell_ext hx5 (HcD.out 1)
    have cD2 : wc.cell? ⟨D, 2, none⟩ = some (.int .u32 p) := cell_ext hx5 (HcD.out 2)
    have HS2 := Lib.hid (show ∀ W, Ext wc W → Ext wc W ∧ W.cell? ⟨D, 1, none⟩ = some (.int .u32 i) ∧ W.cell? ⟨D, 2, none⟩ = some (.int .u32 p) from fun W h => ⟨h, cell_ext h cD1, cell_ext h cD2⟩)
    clear cD1 cD2
    go_wp2_with (fail)
    go_region_held3 (fun W => Ext wc W ∧ W.cell? ⟨D, 1, none⟩ = some (.int .u32 i) ∧ W.cell? ⟨D, 2, none⟩ = some (.int .u32 p)) ((refine HS2.out _ ?_; first | assumption | exact (Ext.refl _).drew))
      (first
        | (go_at_call_of 21 (Value.slice A 2 c); refine (put_lit A 2 c _ i 4 i 4 _ rfl (by omega) (by omega) (by omega) _ r0.drew rfl).mono ?_; rintro r w2 ⟨A2, m2, c2, rfl, r2, x2⟩; replace x2 : Ext wc w2 := Ext.trans (Ext.refl wc).drew x2)
        | (go_at_call_of 21 (Value.slice A2 m2 c2); refine (put_lit A2 m2 c2 _ p 4 p 4 _ rfl (by omega) (by omega) (by have := r2.blen; simp [be_length] at this; omega) _ r2 rfl).mono ?_; rintro r w4 ⟨A4, m4, c4, rfl, r4, x4⟩; replace x4 : Ext wc w4 := Ext.trans x2 x4))
    go_wp2_with (fail)
    replace x4 := hx5.trans x4
    obtain rfl : m4 = 10 := by have := r4.blen; simp [be_length] at this; omega
    clear r2 x2 HS2 hx5 r0 t5
    go_loopw [5, 30] (fun s5 s30 wr => ∃ (j : Nat) (A : Option Addr) (m c : Nat), j ≤ 6 ∧ s5 = .slice A m c ∧ s30 = .int .i64 j ∧ Rd wr 1 A m c (bvs (L0 k i p e ++ amt [a0, a1, a2, b0, b1, b2] j)) ∧ Ext W3 wr ∧ Hid (m = 10 + 8 * j)) (fun _ s30 _ => 6 - (intOf s30).toNat)
    case atStart => exact ⟨0, _, _, _, by omega, rfl, rfl, by rw [amt_zero, List.append_nil]; exact r4, x4, Lib.hid rfl⟩
    case round =>
      obtain ⟨j, A5, m5, c5, hj, rfl, rfl, r5, x5, hm5⟩ := hrel
      have c3 : wr.cell? ⟨D, 3, none⟩ = some (.int .u64 a0) := cell_ext x5 (HcD.out 3)
      have c4 : wr.cell? ⟨D, 4, none⟩ = some (.int .u64 a1) := cell_ext x5 (HcD.out 4)
      have c5' : wr.cell? ⟨D, 5, none⟩ = some (.int .u64 a2) := cell_ext x5 (HcD.out 5)
      have c6 : wr.cell? ⟨D, 6, none⟩ = some (.int .u64 b0) := cell_ext x5 (HcD.out 6)
      have c7 : wr.cell? ⟨D, 7, none⟩ = some (.int .u64 b1) := cell_ext x5 (HcD.out 7)
      have c8 : wr.cell? ⟨D, 8, none⟩ = some (.int .u64 b2) := cell_ext x5 (HcD.out 8)
      have c9 : wr.cell? ⟨D, 9, none⟩ = some (.int .u64 n) := cell_ext x5 (HcD.out 9)
      rcases (show j = 0 ∨ j = 1 ∨ j = 2 ∨ j = 3 ∨ j = 4 ∨ j = 5 ∨ j = 6 by omega) with rfl | rfl | rfl | rfl | rfl | rfl | rfl
      · go_wp2_with (fail)
        refine (put_lit A5 m5 c5 _ a0 8 a0 8 _ rfl (by omega) (by omega) (by have := hm5.out; omega) _ r5 rfl).mono ?_
        rintro r w6 ⟨A6, m6, d6, rfl, r6, x6⟩
        have hm6 := put_len r5 r6
        have H6 := Lib.hid (show m6 = 10 + 8 * 1 by have := hm5.out; omega)
        rw [List.append_assoc, amt_succ (v := a0) (by rfl)] at r6
        clear hm6 r5 c3 c4 c5' c6 c7 c8 c9
        replace x6 := x5.trans x6
        go_wp2_with (fail)
        go_roundw
        case rel => exact ⟨1, A6, m6, d6, by omega, rfl, by first | rfl | trivial, r6, x6, H6⟩
        case measure => simp [intOf]
      · go_wp2_with (fail)
        refine (put_lit A5 m5 c5 _ a1 8 a1 8 _ rfl (by omega) (by omega) (by have := hm5.out; omega) _ r5 rfl).mono ?_
        rintro r w6 ⟨A6, m6, d6, rfl, r6, x6⟩
        have hm6 := put_len r5 r6
        have H6 := Lib.hid (show m6 = 10 + 8 * 2 by have := hm5.out; omega)
        rw [List.append_assoc, amt_succ (v := a1) (by rfl)] at r6
        clear hm6 r5 c3 c4 c5' c6 c7 c8 c9
        replace x6 := x5.trans x6
        go_wp2_with (fail)
        go_roundw
        case rel => exact ⟨2, A6, m6, d6, by omega, rfl, by first | rfl | trivial, r6, x6, H6⟩
        case measure => simp [intOf]
      · go_wp2_with (fail)
        refine (put_lit A5 m5 c5 _ a2 8 a2 8 _ rfl (by omega) (by omega) (by have := hm5.out; omega) _ r5 rfl).mono ?_
        rintro r w6 ⟨A6, m6, d6, rfl, r6, x6⟩
        have hm6 := put_len r5 r6
        have H6 := Lib.hid (show m6 = 10 + 8 * 3 by have := hm5.out; omega)
        rw [List.append_assoc, amt_succ (v := a2) (by rfl)] at r6
        clear hm6 r5 c3 c4 c5' c6 c7 c8 c9
        replace x6 := x5.trans x6
        go_wp2_with (fail)
        go_roundw
        case rel => exact ⟨3, A6, m6, d6, by omega, rfl, by first | rfl | trivial, r6, x6, H6⟩
        case measure => simp [intOf]
      · go_wp2_with (fail)
        refine (put_lit A5 m5 c5 _ b0 8 b0 8 _ rfl (by omega) (by omega) (by have := hm5.out; omega) _ r5 rfl).mono ?_
        rintro r w6 ⟨A6, m6, d6, rfl, r6, x6⟩
        have hm6 := put_len r5 r6
        have H6 := Lib.hid (show m6 = 10 + 8 * 4 by have := hm5.out; omega)
        rw [List.append_assoc, amt_succ (v := b0) (by rfl)] at r6
        clear hm6 r5 c3 c4 c5' c6 c7 c8 c9
        replace x6 := x5.trans x6
        go_wp2_with (fail)
        go_roundw
        case rel => exact ⟨4, A6, m6, d6, by omega, rfl, by first | rfl | trivial, r6, x6, H6⟩
        case measure => simp [intOf]
      · go_wp2_with (fail)
        refine (put_lit A5 m5 c5 _ b1 8 b1 8 _ rfl (by omega) (by omega) (by have := hm5.out; omega) _ r5 rfl).mono ?_
        rintro r w6 ⟨A6, m6, d6, rfl, r6, x6⟩
        have hm6 := put_len r5 r6
        have H6 := Lib.hid (show m6 = 10 + 8 * 5 by have := hm5.out; omega)
        rw [List.append_assoc, amt_succ (v := b1) (by rfl)] at r6
        clear hm6 r5 c3 c4 c5' c6 c7 c8 c9
        replace x6 := x5.trans x6
        go_wp2_with (fail)
        go_roundw
        case rel => exact ⟨5, A6, m6, d6, by omega, rfl, by first | rfl | trivial, r6, x6, H6⟩
        case measure => simp [intOf]
      · go_wp2_with (fail)
        refine (put_lit A5 m5 c5 _ b2 8 b2 8 _ rfl (by omega) (by omega) (by have := hm5.out; omega) _ r5 rfl).mono ?_
        rintro r w6 ⟨A6, m6, d6, rfl, r6, x6⟩
        have hm6 := put_len r5 r6
        have H6 := Lib.hid (show m6 = 10 + 8 * 6 by have := hm5.out; omega)
        rw [List.append_assoc, amt_succ (v := b2) (by rfl)] at r6
        clear hm6 r5 c3 c4 c5' c6 c7 c8 c9
        replace x6 := x5.trans x6
        go_wp2_with (fail)
        go_roundw
        case rel => exact ⟨6, A6, m6, d6, by omega, rfl, by first | rfl | trivial, r6, x6, H6⟩
        case measure => simp [intOf]
      · go_wp2_with (fail)
        refine (put_any A5 m5 c5 _ n 8 8 (by omega) (by omega) (by have := hm5.out; omega) _ r5).mono ?_
        rintro r w6 ⟨A6, m6, d6, rfl, o6, x6⟩
        have hm6 := put_len r5 (Rd.of_own o6)
        obtain rfl : m6 = 66 := by have := hm5.out; omega
        clear hm6
        replace o6 := own_mono o6 (Nat.le_trans hx3.size x5.size)
        replace x6 := x5.trans x6
        go_wp2_with (fail)
        go_ret2
        exact ⟨A6, d6, by first | rfl | trivial, o6, hx3.trans x6⟩

theorem evB_eq (k i p a0 a1 a2 b0 b1 b2 n : Nat) (m e : Int) : L0 k i p e ++ amt [a0, a1, a2, b0, b1, b2] 6 ++ be 8 n = evB (Ask.mk k i p a0 a1 a2 b0 b1 b2 n m) e := by
  simp [L0, amt, evB, List.append_assoc]
/-- **events.Put** -/
theorem evPut_any (x : Ask) (e : Int) (hx : x.Wf) (w : World) (hla : Laid w) :
    Calls Tryd.prog 8 #[.agg (x.cells ++ [Value.int .i64 e]).toArray] w fun r w' =>
      (x.may e = false ∧ r = .returned (.tuple #[.slice none 0 0, .int .i64 1]) ∧ Ext w w') ∨
      (x.may e = true ∧ ∃ A c, r = .returned (.tuple #[.slice A 66 c, .int .i64 0]) ∧ w'.ownsRow w.heap.size 5 1 (.slice A 66 c) 66 (bvs (evB x e)) ∧ Ext w w') := by
  obtain ⟨k, i, p, a0, a1, a2, b0, b1, b2, n, m⟩ := x
  cases hm : (Ask.mk k i p a0 a1 a2 b0 b1 b2 n m).may e with
  | false => exact (evPut_no k i p a0 a1 a2 b0 b1 b2 n m e hx hm w hla).mono fun r w' h => .inl ⟨rfl, h⟩
  | true =>
    obtain ⟨i, rfl⟩ := Int.eq_ofNat_of_zero_le hx.i.1
    obtain ⟨p, rfl⟩ := Int.eq_ofNat_of_zero_le hx.p.1
    obtain ⟨a0, rfl⟩ := Int.eq_ofNat_of_zero_le hx.a0.1
    obtain ⟨a1, rfl⟩ := Int.eq_ofNat_of_zero_le hx.a1.1
    obtain ⟨a2, rfl⟩ := Int.eq_ofNat_of_zero_le hx.a2.1
    obtain ⟨b0, rfl⟩ := Int.eq_ofNat_of_zero_le hx.b0.1
    obtain ⟨b1, rfl⟩ := Int.eq_ofNat_of_zero_le hx.b1.1
    obtain ⟨b2, rfl⟩ := Int.eq_ofNat_of_zero_le hx.b2.1
    obtain ⟨n, rfl⟩ := Int.eq_ofNat_of_zero_le hx.n.1
    refine (evPut_yes k i p a0 a1 a2 b0 b1 b2 n m e hx hm w hla).mono fun r w' h => .inr ⟨rfl, ?_⟩
    rw [evB_eq] at h
    exact h
end Go.Proofs.YtnpcpmiomimphaaDoor
namespace Go.Proofs.YtnpcpmiomimphaaDoor
open Go.RowKit
attribute [local go_sem ↓] Go.wp_at_zero Go.wp_at_succ

/-- the number of k bytes at a place. -/
def numAt (l : List UInt8) (a k : Nat) : Nat := ofBe ((l.drop a).take k)
theorem info_u8s' : (Tryd.prog.info? 5).map (·.size) = some 1 := by kernel_rfl

set_option maxRecDepth 100000 in
set_option maxHeartbeats 400000 in
theorem num_any (A : Option Addr) (n cap : Nat) (l : List UInt8) (at_ k : Nat) (bb : Nat) (w : World) (hr : Rd w 1 A n cap (bvs l)) (hb : w.cell? ⟨bb, 0, none⟩ = some (.slice A n cap)) (hk : k ≤ 8) (ha : at_ + k ≤ n) :
    Calls Tryd.prog 22 #[.int .i64 at_, .int .i64 k, .pointer (some ⟨bb, 0, none⟩)] w fun e w' => e = .returned (.int .u64 (numAt l at_ k)) ∧ w = w' := by
  obtain ⟨A2, n2, c2, hcut, hn2, -, r2⟩ := cut_l Tryd.underlying32 info_u8s' hr .i64 at_ (by omega)
  subst hn2
  rw [Nat.mul_one, ← bvs_drop] at r2
  have hl := hr.blen
  have hg : getR (l.drop at_) (k : Int) = (numAt l at_ k, 0) := by
    unfold getR; rw [if_neg (by omega), if_neg (by rw [List.length_drop]; omega)]; rfl
  have Hg := Lib.hid hg
  clear hg hl
  go_enter Tryd.func22, Tryd.ntmps22
  go_wp2_with (fail)
  refine (get_any A2 (n - at_) c2 (l.drop at_) k w r2).mono ?_
  rintro e w1 ⟨rfl, rfl⟩
  rw [Hg.out]
  go_wp2_with (fail)
  go_ret
  exact ⟨by first | rfl | trivial, by first | rfl | trivial⟩

theorem numAt_lt (l : List UInt8) (a k : Nat) : numAt l a k < 256 ^ k := by
  unfold numAt
  refine Nat.lt_of_lt_of_le (ofBe_lt _) (Nat.pow_le_pow_right (by omega) ?_)
  rw [List.length_take]; omega
theorem after_cell {w w1 : World} {c : Array Value} {tc t : TypeId} {cs : Array Value} {d : Nat} (h : Ext (((w.alloc (.cells c tc)).alloc (.cells cs t)).drewN d) w1) (j : Nat) : w1.cell? ⟨w.heap.size + 1, j, none⟩ = cs[j]? := by
  refine (Below.cell h ?_).trans ?_
  · show w.heap.size + 1 < ((w.alloc (.cells c tc)).alloc (.cells cs t)).heap.size
    rw [asz, asz]; omega
  · show ((w.alloc (.cells c tc)).alloc (.cells cs t)).cell? ⟨w.heap.size + 1, j, none⟩ = _
    rw [← asz w (.cells c tc)]
    exact box_cell _ _ _ j
theorem after_frozen {w w1 : World} {c : Array Value} {tc t : TypeId} {cs : Array Value} {d : Nat} (h : Ext (((w.alloc (.cells c tc)).alloc (.cells cs t)).drewN d) w1) (j : Nat) : w1.frozen? ⟨w.heap.size + 1, j, none⟩ = false := by
  refine (Below.frozen h ?_).trans ?_
  · show w.heap.size + 1 < ((w.alloc (.cells c tc)).alloc (.cells cs t)).heap.size
    rw [asz, asz]; omega
  · have e : ((w.alloc (.cells c tc)).alloc (.cells cs t)).heap[w.heap.size + 1]? = some (.cells cs t) := by rw [← asz w (.cells c tc)]; exact heap_alloc_new _ _
    show ((w.alloc (.cells c tc)).alloc (.cells cs t)).frozen? _ = false
    unfold World.frozen?
    simp only [e]
    simp
theorem fold2 (W : World) (cs : Array Value) (t : TypeId) (d b j1 j2 : Nat) (v1 v2 : Value) (hb : b = W.heap.size) :
    (((W.alloc (.cells cs t)).drewN d).setCell ⟨b, j1, none⟩ v1).setCell ⟨b, j2, none⟩ v2 = (W.alloc (.cells ((cs.setIfInBounds j1 v1).setIfInBounds j2 v2) t)).drewN d := by
  have e : ∀ (w : World) a v, (w.drewN d).setCell a v = (w.setCell a v).drewN d := fun _ _ _ => rfl
  rw [e, e, World.setCell_alloc_at _ _ _ _ _ hb, World.setCell_alloc_at _ _ _ _ _ hb]
def ev0 : Array Value := #[.int .u8 0, .int .u32 0, .int .u32 0, .int .u64 0, .int .u64 0, .int .u64 0, .int .u64 0, .int .u64 0, .int .u64 0, .int .u64 0, .int .u64 0, .int .i64 0]
set_option maxRecDepth 100000 in
set_option maxHeartbeats 400000 in
theorem evGet_short (A : Option Addr) (n cap : Nat) (w : World) (h : n < 66) (hc : cap ≤ maxLen) (hn : n ≤ cap) :
    Calls Tryd.prog 10 #[.slice A n cap] w fun e w' => e = .returned (.tuple #[.agg ev0, .int .i64 5]) ∧ Ext w w' := by
  have h1 : (n : Int) < 66 := by omega
  unfold maxLen at hc
  go_enter Tryd.func10, Tryd.ntmps10
  go_wp2_with (fail)
  go_returns
  exact ⟨by first | rfl | trivial, ((Ext.refl w).alloc _).alloc _⟩
set_option maxRecDepth 100000 in
set_option maxHeartbeats 400000 in
theorem evGet_long (A : Option Addr) (n cap : Nat) (w : World) (h : 66 < n) (hc : cap ≤ maxLen) (hn : n ≤ cap) :
    Calls Tryd.prog 10 #[.slice A n cap] w fun e w' => e = .returned (.tuple #[.agg ev0, .int .i64 4]) ∧ Ext w w' := by
  have h1 : ¬ (n : Int) < 66 := by omega
  have h2 : (66 : Int) < n := by omega
  unfold maxLen at hc
  go_enter Tryd.func10, Tryd.ntmps10
  go_wp2_with (fail)
  go_returns
  exact ⟨by first | rfl | trivial, ((Ext.refl w).alloc _).alloc _⟩
set_option maxRecDepth 100000 in
set_option maxHeartbeats 8000000 in
theorem evGet_full (A : Option Addr) (cap : Nat) (l : List UInt8) (w : World) (hla : Laid w) (hr : Rd w 1 A 66 cap (bvs l)) (z0 z1 i p a0 a1 a2 b0 b1 b2 n : Nat) (f : Bool)
    (hz0 : (l[0]?.getD 0).toNat = z0) (hz1 : (l[1]?.getD 0).toNat = z1) (hi : numAt l 2 4 = i) (hp : numAt l 6 4 = p) (h10 : numAt l 10 8 = a0) (h18 : numAt l 18 8 = a1) (h26 : numAt l 26 8 = a2)
    (h34 : numAt l 34 8 = b0) (h42 : numAt l 42 8 = b1) (h50 : numAt l 50 8 = b2) (h58 : numAt l 58 8 = n) (hx : (Ask.mk z0 i p a0 a1 a2 b0 b1 b2 n 0).Wf) (hf : (Ask.mk z0 i p a0 a1 a2 b0 b1 b2 n 0).may z1 = f) :
    Calls Tryd.prog 10 #[.slice A 66 cap] w fun e w' => e = .returned (.tuple (if f then #[.agg #[.int .u8 z0, .int .u32 i, .int .u32 p, .int .u64 a0, .int .u64 a1, .int .u64 a2, .int .u64 b0, .int .u64 b1, .int .u64 b2, .int .u64 n, .int .u64 0, .int .i64 z1], .int .i64 0] else #[.agg ev0, .int .i64 4])) ∧ Ext w w' := by
  obtain ⟨ab, ao, rfl, c1⟩ := hr.byte (k := 1) (by omega)
  obtain ⟨ab', ao', hA, c0⟩ := hr.byte (k := 0) (by omega)
  injection hA with hA
  injection hA with hA1 hA2
  subst hA1 hA2
  have hlt := World.block_lt_of_cell? w _ c1
  simp only at hlt
  have n1 : ab ≠ w.heap.size := by omega
  have n2 : ab ≠ w.heap.size + 1 := by omega
  have n3 : ¬ w.heap.size = ab := by omega
  have n4 : ¬ w.heap.size + 1 = ab := by omega
  rw [Nat.add_zero, hz0] at c0
  rw [hz1] at c1
  have hz0b : z0 < 256 := by have := byte_lt (l[0]?.getD 0); omega
  have hz1b : z1 < 256 := by have := byte_lt (l[1]?.getD 0); omega
  have num := fun (a k v : Nat) (hv : numAt l a k = v) (W : World) (hW : Rd W 1 (some ⟨ab, ao, none⟩) 66 cap (bvs l)) (hc : W.cell? ⟨w.heap.size, 0, none⟩ = some (.slice (some ⟨ab, ao, none⟩) 66 cap)) (hk : k ≤ 8) (h : a + k ≤ 66) => hv ▸ num_any (some ⟨ab, ao, none⟩) 66 cap l a k w.heap.size W hW hc hk h
  have N2 := Lib.hid (num 2 4 i hi)
  have N6 := Lib.hid (num 6 4 p hp)
  have N10 := Lib.hid (num 10 8 a0 h10)
  have N18 := Lib.hid (num 18 8 a1 h18)
  have N26 := Lib.hid (num 26 8 a2 h26)
  have N34 := Lib.hid (num 34 8 b0 h34)
  have N42 := Lib.hid (num 42 8 b1 h42)
  have N50 := Lib.hid (num 50 8 b2 h50)
  have N58 := Lib.hid (num 58 8 n h58)
  have hwi : IntKind.u32.wrap (i : Int) = i := by rw [IntKind.wrap_u32]; have := numAt_lt l 2 4; omega
  have hwp : IntKind.u32.wrap (p : Int) = p := by rw [IntKind.wrap_u32]; have := numAt_lt l 6 4; omega
  have hm := fun W (hW : Laid W) => may_any (Ask.mk z0 i p a0 a1 a2 b0 b1 b2 n 0) z1 hx W hW
  rw [hf] at hm
  have Hm := Lib.hid hm
  clear num hz0 hz1 hi hp h10 h18 h26 h34 h42 h50 h58 hx hf hm
  go_enter Tryd.func10, Tryd.ntmps10
  go_wp2_with (fail)
  go_region_held3 (fun W => W.cell? ⟨w.heap.size, 0, none⟩ = some (.slice (some ⟨ab, ao, none⟩) 66 cap) ∧ W.cell? ⟨ab, ao, none⟩ = some (.int .u8 z0)) (go_keep)
    (first
      | (go_at_call_of 22 (Value.int IntKind.i64 2); refine (N2.out _ (((hr.alloc _).alloc _).drew) (by first | assumption | simp) (by omega) (by omega)).mono ?_; rintro e w' ⟨rfl, rfl⟩)
      | (go_at_call_of 22 (Value.int IntKind.i64 6); refine (N6.out _ (((hr.alloc _).alloc _).drew) (by first | assumption | simp) (by omega) (by omega)).mono ?_; rintro e w' ⟨rfl, rfl⟩)
      | (go_at_call_of 22 (Value.int IntKind.i64 58); refine (N58.out _ (((hr.alloc _).alloc _).drew) (by first | assumption | simp) (by omega) (by omega)).mono ?_; rintro e w' ⟨rfl, rfl⟩))
  go_wp2_with (fail)
  clear c0 c1
  have hww : ∀ z : Int, 0 ≤ z → z ≤ 100 → IntKind.i64.wrap z = z := fun z h1 h2 => by rw [IntKind.wrap_i64]; omega
  go_loopw [41] (fun s wr => ∃ (j : Int) (d : Nat) (x0 x1 x2 y0 y1 y2 : Int), 0 ≤ j ∧ j ≤ 3 ∧ s = .int .i64 j ∧ wr = ((w.alloc (.cells #[.slice (some ⟨ab, ao, none⟩) 66 cap] 32)).alloc (.cells #[.int .u8 z0, .int .u32 i, .int .u32 p, .int .u64 x0, .int .u64 x1, .int .u64 x2, .int .u64 y0, .int .u64 y1, .int .u64 y2, .int .u64 n, .int .u64 0, .int .i64 z1] 31)).drewN d ∧
      Hid ((0 < j → x0 = a0 ∧ y0 = b0) ∧ (1 < j → x1 = a1 ∧ y1 = b1) ∧ (2 < j → x2 = a2 ∧ y2 = b2))) (fun s _ => 3 - (intOf s).toNat)
  case atStart => exact ⟨0, 1, 0, 0, 0, 0, 0, 0, by omega, by omega, rfl, rfl, Lib.hid ⟨fun h => by omega, fun h => by omega, fun h => by omega⟩⟩
  case round =>
    obtain ⟨j, d, x0, x1, x2, y0, y1, y2, hj0, hj3, rfl, rfl, ho⟩ := hrel
    rcases (show j = 0 ∨ j = 1 ∨ j = 2 ∨ j = 3 by omega) with rfl | rfl | rfl | rfl
    · go_wp2_with (fail)
      go_region_held3 (fun W => W.cell? ⟨w.heap.size, 0, none⟩ = some (.slice (some ⟨ab, ao, none⟩) 66 cap)) (go_keep)
        (first
          | (go_at_call_of 22 (Value.int IntKind.i64 10); refine (N10.out _ ((((hr.alloc _).alloc _).drewN _).drew) (by first | assumption | simp) (by omega) (by omega)).mono ?_; rintro e w' ⟨rfl, rfl⟩)
          | (go_at_call_of 22 (Value.int IntKind.i64 34); refine (N34.out _ ((((hr.alloc _).alloc _).drewN _).drew) (by first | assumption | simp) (by omega) (by omega)).mono ?_; rintro e w' ⟨rfl, rfl⟩))
      go_wp2_with (fail)
      go_roundw
      case rel => exact ⟨1, d + 1, a0, x1, x2, b0, y1, y2, by omega, by omega, by first | rfl | trivial, fold2 _ _ _ _ _ _ _ _ _ (asz _ _).symm, Lib.hid ⟨fun _ => ⟨rfl, rfl⟩, fun h => by omega, fun h => by omega⟩⟩
      case measure => simp [intOf]
    · go_wp2_with (fail)
      go_region_held3 (fun W => W.cell? ⟨w.heap.size, 0, none⟩ = some (.slice (some ⟨ab, ao, none⟩) 66 cap)) (go_keep)
        (first
          | (go_at_call_of 22 (Value.int IntKind.i64 18); refine (N18.out _ ((((hr.alloc _).alloc _).drewN _).drew) (by first | assumption | simp) (by omega) (by omega)).mono ?_; rintro e w' ⟨rfl, rfl⟩)
          | (go_at_call_of 22 (Value.int IntKind.i64 42); refine (N42.out _ ((((hr.alloc _).alloc _).drewN _).drew) (by first | assumption | simp) (by omega) (by omega)).mono ?_; rintro e w' ⟨rfl, rfl⟩))
      go_wp2_with (fail)
      go_roundw
      case rel => exact ⟨2, d + 1, x0, a1, x2, y0, b1, y2, by omega, by omega, by first | rfl | trivial, fold2 _ _ _ _ _ _ _ _ _ (asz _ _).symm, Lib.hid ⟨fun _ => ho.out.1 (by omega), fun _ => ⟨rfl, rfl⟩, fun h => by omega⟩⟩
      case measure => simp [intOf]
    · go_wp2_with (fail)
      go_region_held3 (fun W => W.cell? ⟨w.heap.size, 0, none⟩ = some (.slice (some ⟨ab, ao, none⟩) 66 cap)) (go_keep)
        (first
          | (go_at_call_of 22 (Value.int IntKind.i64 26); refine (N26.out _ ((((hr.alloc _).alloc _).drewN _).drew) (by first | assumption | simp) (by omega) (by omega)).mono ?_; rintro e w' ⟨rfl, rfl⟩)
          | (go_at_call_of 22 (Value.int IntKind.i64 50); refine (N50.out _ ((((hr.alloc _).alloc _).drewN _).drew) (by first | assumption | simp) (by omega) (by omega)).mono ?_; rintro e w' ⟨rfl, rfl⟩))
      go_wp2_with (fail)
      go_roundw
      case rel => exact ⟨3, d + 1, x0, x1, a2, y0, y1, b2, by omega, by omega, by first | rfl | trivial, fold2 _ _ _ _ _ _ _ _ _ (asz _ _).symm, Lib.hid ⟨fun _ => ho.out.1 (by omega), fun _ => ho.out.2.1 (by omega), fun _ => ⟨rfl, rfl⟩⟩⟩
      case measure => simp [intOf]
    · obtain ⟨⟨rfl, rfl⟩, ⟨rfl, rfl⟩, ⟨rfl, rfl⟩⟩ := And.intro (ho.out.1 (by omega)) (And.intro (ho.out.2.1 (by omega)) (ho.out.2.2 (by omega)))
      go_wp2_with (fail)
      refine (Hm.out _ ?_).mono ?_
      · exact hla.ext (((((Ext.refl w).alloc _).alloc _).drewN _))
      rintro e w1 ⟨rfl, x1⟩
      have hx1 := (((((Ext.refl w).alloc _).alloc _).drewN d)).trans x1
      have cl := after_cell x1
      have hfr := after_frozen x1
      have d0 : w1.cell? ⟨w.heap.size + 1, 0, none⟩ = some (.int .u8 z0) := cl 0
      have d1 : w1.cell? ⟨w.heap.size + 1, 1, none⟩ = some (.int .u32 i) := cl 1
      have d2 : w1.cell? ⟨w.heap.size + 1, 2, none⟩ = some (.int .u32 p) := cl 2
      have d3 : w1.cell? ⟨w.heap.size + 1, 3, none⟩ = some (.int .u64 a0) := cl 3
      have d4 : w1.cell? ⟨w.heap.size + 1, 4, none⟩ = some (.int .u64 a1) := cl 4
      have d5 : w1.cell? ⟨w.heap.size + 1, 5, none⟩ = some (.int .u64 a2) := cl 5
      have d6 : w1.cell? ⟨w.heap.size + 1, 6, none⟩ = some (.int .u64 b0) := cl 6
      have d7 : w1.cell? ⟨w.heap.size + 1, 7, none⟩ = some (.int .u64 b1) := cl 7
      have d8 : w1.cell? ⟨w.heap.size + 1, 8, none⟩ = some (.int .u64 b2) := cl 8
      have d9 : w1.cell? ⟨w.heap.size + 1, 9, none⟩ = some (.int .u64 n) := cl 9
      have d10 : w1.cell? ⟨w.heap.size + 1, 10, none⟩ = some (.int .u64 0) := cl 10
      have d11 : w1.cell? ⟨w.heap.size + 1, 11, none⟩ = some (.int .i64 z1) := cl 11
      clear cl x1 N2 N6 N10 N18 N26 N34 N42 N50 N58 Hm hww hwi hwp
      cases f
      all_goals
        go_wp2_with (fail)
        (try simp only [Exit.inBlock, Exit.then])
        refine bodyPost_ret (by simp [results, Tryd.results10, go_sem, d0, d1, d2, d3, d4, d5, d6, d7, d8, d9, d10, d11]; try rfl) rfl ?_
        exact ⟨rfl, ((((((((((((hx1.setCell (Nat.le_succ _) _).setCell (Nat.le_succ _) _).setCell (Nat.le_succ _) _).setCell (Nat.le_succ _) _).setCell (Nat.le_succ _) _).setCell (Nat.le_succ _) _).setCell (Nat.le_succ _) _).setCell (Nat.le_succ _) _).setCell (Nat.le_succ _) _).setCell (Nat.le_succ _) _).setCell (Nat.le_succ _) _).setCell (Nat.le_succ _) _)⟩
end Go.Proofs.YtnpcpmiomimphaaDoor
namespace Go.Proofs.YtnpcpmiomimphaaDoor
open Go.RowKit

/-- what 66 bytes say. -/
def evOf (l : List UInt8) : Ask := ⟨(l[0]?.getD 0).toNat, numAt l 2 4, numAt l 6 4, numAt l 10 8, numAt l 18 8, numAt l 26 8, numAt l 34 8, numAt l 42 8, numAt l 50 8, numAt l 58 8, 0⟩
def evE (l : List UInt8) : Nat := (l[1]?.getD 0).toNat
theorem evOf_wf (l : List UInt8) : (evOf l).Wf := by
  have n4 := fun a => numAt_lt l a 4
  have n8 := fun a => numAt_lt l a 8
  have hb := byte_lt (l[0]?.getD 0)
  constructor <;> simp only [evOf] <;> first | omega | exact ⟨by omega, by have := n4 2; omega⟩ | exact ⟨by omega, by have := n4 6; omega⟩ | exact ⟨by omega, by have := n8 10; omega⟩ | exact ⟨by omega, by have := n8 18; omega⟩ | exact ⟨by omega, by have := n8 26; omega⟩ | exact ⟨by omega, by have := n8 34; omega⟩ | exact ⟨by omega, by have := n8 42; omega⟩ | exact ⟨by omega, by have := n8 50; omega⟩ | exact ⟨by omega, by have := n8 58; omega⟩
/-- what Get answers: cells and error. -/
def getEv (l : List UInt8) : List Value × Int :=
  if l.length < 66 then (ev0.toList, 5) else if 66 < l.length then (ev0.toList, 4) else if (evOf l).may (evE l) then ((evOf l).cells ++ [Value.int .i64 (evE l)], 0) else (ev0.toList, 4)
/-- **events.Get** -/
theorem evGet_any (A : Option Addr) (n cap : Nat) (l : List UInt8) (w : World) (hla : Laid w) (hr : Rd w 1 A n cap (bvs l)) :
    Calls Tryd.prog 10 #[.slice A n cap] w fun e w' => e = .returned (.tuple #[.agg (getEv l).1.toArray, .int .i64 (getEv l).2]) ∧ Ext w w' := by
  have hl := hr.blen
  unfold getEv
  rw [hl]
  by_cases h1 : n < 66
  · rw [if_pos h1]
    exact evGet_short A n cap w h1 hr.top hr.le
  · rw [if_neg h1]
    by_cases h2 : 66 < n
    · rw [if_pos h2]
      exact evGet_long A n cap w h2 hr.top hr.le
    · rw [if_neg h2]
      obtain rfl : n = 66 := by omega
      refine (evGet_full A cap l w hla hr _ _ _ _ _ _ _ _ _ _ _ _ rfl rfl rfl rfl rfl rfl rfl rfl rfl rfl rfl (evOf_wf l) rfl).mono ?_
      rintro e w' ⟨rfl, hx⟩
      refine ⟨?_, hx⟩
      change Ending.returned (Value.tuple (if (evOf l).may (evE l) = true then _ else _)) = _
      split <;> rfl
end Go.Proofs.YtnpcpmiomimphaaDoor
namespace Go.Proofs.YtnpcpmiomimphaaDoor
open Go.RowKit

def tick : Ask := ⟨9, 0, 0, 0, 0, 0, 0, 0, 0, 3, 0⟩
theorem tick_wf : tick.Wf := by constructor <;> simp [tick]
theorem tick_may : tick.may 0 = true := by decide +kernel
theorem tick_over : tick.may 10 = false := by decide +kernel
theorem tick_get : getEv (evB tick 0) = ([.int .u8 9, .int .u32 0, .int .u32 0, .int .u64 0, .int .u64 0, .int .u64 0, .int .u64 0, .int .u64 0, .int .u64 0, .int .u64 3, .int .u64 0, .int .i64 0], 0) := by kernel_rfl

def tickId : Ask := ⟨9, 1, 0, 0, 0, 0, 0, 0, 0, 0, 0⟩
def status : Ask := ⟨15, 0, 0, 0, 0, 0, 0, 0, 0, 0, 0⟩
theorem tickId_wf : tickId.Wf := by constructor <;> simp [tickId]
theorem status_wf : status.Wf := by constructor <;> simp [status]
theorem tickId_fits : tickId.fits = false := by decide +kernel
theorem status_fits : status.fits = true := by decide +kernel
theorem tick0 : ((evB tick 0)[0]?.getD 0).toNat = 9 := by decide +kernel
theorem tick65 : ((evB tick 0)[65]?.getD 0).toNat = 3 := by decide +kernel

set_option maxRecDepth 100000 in
set_option maxHeartbeats 1000000 in
theorem lives_any (w : World) (hla : Laid w) : Calls Tryd.prog 9 #[] w fun e w' => e = .returned (.bool true) ∧ Ext w w' := by
  go_enter Tryd.func9, Tryd.ntmps9
  go_wp2_with (fail)
  refine (evPut_any tick 0 tick_wf _ (hla.ext ((Ext.refl w).alloc _))).mono ?_
  rintro r w1 (⟨h, -⟩ | ⟨-, A, c, rfl, ho, x1⟩)
  · rw [tick_may] at h; cases h
  have r1 := Rd.of_own ho
  have hx1 := ((Ext.refl w).alloc _).trans x1
  have hge := own_block_ge ho
  obtain ⟨ab, ao, rfl, b0⟩ := r1.byte (k := 0) (by omega)
  obtain ⟨ab', ao', hA, b65⟩ := r1.byte (k := 65) (by omega)
  injection hA with hA
  injection hA with hA1 hA2
  subst hA1 hA2
  have hab : w.heap.size + 1 ≤ ab := by have := hge ab rfl; rwa [asz] at this
  have n1 : ¬ w.heap.size = ab := by omega
  rw [tick0, Nat.add_zero] at b0
  rw [tick65] at b65
  go_wp2_with (fail)
  refine (evGet_any _ 66 c _ w1 (hla.ext hx1) r1).mono ?_
  rw [tick_get]
  rintro r w2 ⟨rfl, x2⟩
  replace b0 := cell_ext x2 b0
  replace b65 := cell_ext x2 b65
  have d0 : w2.cell? ⟨w.heap.size, 0, none⟩ = some (.int .u8 9) := cell_ext x2 (cell_ext x1 (box_cell w _ _ 0))
  have d1 : w2.cell? ⟨w.heap.size, 1, none⟩ = some (.int .u32 0) := cell_ext x2 (cell_ext x1 (box_cell w _ _ 1))
  have d2 : w2.cell? ⟨w.heap.size, 2, none⟩ = some (.int .u32 0) := cell_ext x2 (cell_ext x1 (box_cell w _ _ 2))
  have d3 : w2.cell? ⟨w.heap.size, 3, none⟩ = some (.int .u64 0) := cell_ext x2 (cell_ext x1 (box_cell w _ _ 3))
  have d4 : w2.cell? ⟨w.heap.size, 4, none⟩ = some (.int .u64 0) := cell_ext x2 (cell_ext x1 (box_cell w _ _ 4))
  have d5 : w2.cell? ⟨w.heap.size, 5, none⟩ = some (.int .u64 0) := cell_ext x2 (cell_ext x1 (box_cell w _ _ 5))
  have d6 : w2.cell? ⟨w.heap.size, 6, none⟩ = some (.int .u64 0) := cell_ext x2 (cell_ext x1 (box_cell w _ _ 6))
  have d7 : w2.cell? ⟨w.heap.size, 7, none⟩ = some (.int .u64 0) := cell_ext x2 (cell_ext x1 (box_cell w _ _ 7))
  have d8 : w2.cell? ⟨w.heap.size, 8, none⟩ = some (.int .u64 0) := cell_ext x2 (cell_ext x1 (box_cell w _ _ 8))
  have d9 : w2.cell? ⟨w.heap.size, 9, none⟩ = some (.int .u64 3) := cell_ext x2 (cell_ext x1 (box_cell w _ _ 9))
  have d10 : w2.cell? ⟨w.heap.size, 10, none⟩ = some (.int .u64 0) := cell_ext x2 (cell_ext x1 (box_cell w _ _ 10))
  have d11 : w2.cell? ⟨w.heap.size, 11, none⟩ = some (.int .i64 0) := cell_ext x2 (cell_ext x1 (box_cell w _ _ 11))
  have hfr : ∀ j, w2.frozen? ⟨w.heap.size, j, none⟩ = false := fun j => by
    refine (Below.frozen (x1.trans x2) (by show w.heap.size < _; rw [asz]; omega)).trans ?_
    have e := heap_alloc_new w (.cells #[.int .u8 9, .int .u32 0, .int .u32 0, .int .u64 0, .int .u64 0, .int .u64 0, .int .u64 0, .int .u64 0, .int .u64 0, .int .u64 3, .int .u64 0, .int .i64 0] 31)
    unfold World.frozen?
    simp only [e]
    simp
  clear r1 ho hge
  have hx2 := hx1.trans x2
  clear x1 x2
  have hlt1 := World.block_lt_of_cell? w2 _ d0
  have hlt2 := World.block_lt_of_cell? w2 _ b0
  simp only at hlt1 hlt2
  have n2 : ¬ w2.heap.size = ab := by omega
  have n3 : ¬ w2.heap.size = w.heap.size := by omega
  go_wp2_with (fail)
  have hs : (w2.setCell ⟨w.heap.size, 11, none⟩ (.int .i64 10)).heap.size = w2.heap.size := by simp [World.setCell]
  have hxW := fun o => (hx2.setCell (p := ⟨w.heap.size, 11, none⟩) (Nat.le_refl _) (.int .i64 10)).alloc o
  have e0 : ∀ o, ((w2.setCell ⟨w.heap.size, 11, none⟩ (.int .i64 10)).alloc o).cell? ⟨ab, ao, none⟩ = some (.int .u8 9) := fun o => cell_ext ((Ext.refl _).alloc o) ((World.cell?_setCell_far w2 _ _ _ n1).trans b0)
  have e65 : ∀ o, ((w2.setCell ⟨w.heap.size, 11, none⟩ (.int .i64 10)).alloc o).cell? ⟨ab, ao + 65, none⟩ = some (.int .u8 3) := fun o => cell_ext ((Ext.refl _).alloc o) ((World.cell?_setCell_far w2 _ _ _ n1).trans b65)
  have e9 : ∀ cs t, ((w2.setCell ⟨w.heap.size, 11, none⟩ (.int .i64 10)).alloc (.cells cs t)).cell? ⟨w2.heap.size, 9, none⟩ = cs[9]? := fun cs t => by rw [← hs]; exact box_cell _ _ _ _
  refine (evPut_any tick 10 tick_wf _ (hla.ext (hxW _))).mono ?_
  rintro r w3 (⟨-, rfl, x3⟩ | ⟨h, -⟩)
  rotate_left
  · rw [tick_over] at h; cases h
  replace e0 := cell_ext x3 (e0 _)
  replace e65 := cell_ext x3 (e65 _)
  have e9 : w3.cell? ⟨w2.heap.size, 9, none⟩ = some (.int .u64 3) := cell_ext x3 (e9 _ _)
  have hx3 := (hxW _).trans x3
  clear d0 d1 d2 d3 d4 d5 d6 d7 d8 d9 d10 d11 hfr hs hxW x3 b0 b65 hx2 hx1
  go_wp2_with (fail)
  refine (fits_any tickId tickId_wf w3 (hla.ext hx3)).mono ?_
  rintro r w4 ⟨rfl, x4⟩
  rw [tickId_fits]
  go_wp2_with (fail)
  refine (fits_any status status_wf w4 (hla.ext (hx3.trans x4))).mono ?_
  rintro r w5 ⟨rfl, x5⟩
  rw [status_fits]
  go_wp2_with (fail)
  go_ret
  exact ⟨by first | rfl | trivial, hx3.trans (x4.trans x5)⟩
end Go.Proofs.YtnpcpmiomimphaaDoor
namespace Go.Proofs.YtnpcpmiomimphaaDoor
open Go.RowKit

def okB (k v0 v1 v2 v3 : Nat) (fa fb : Bool) : Bool := bits .andNot .i64 (hasV ((v0 : Int) + 2 * v1 + 16 * v2 + 32 * v3) fa fb) (need k) == 0
theorem less_all : ((List.range 16).all fun k => (List.range 2).all fun v0 => (List.range 2).all fun v1 => (List.range 2).all fun v2 => (List.range 2).all fun v3 => [true, false].all fun fa => [true, false].all fun fb =>
    !okB k v0 v1 v2 v3 fa fb || (okB k 0 v1 v2 v3 fa fb && okB k v0 0 v2 v3 fa fb && okB k v0 v1 0 v3 fa fb && okB k v0 v1 v2 v3 false fb && (okB k v0 v1 v2 1 fa fb == (k == 12 || k == 13)))) = true := by decide +kernel
theorem less {k v0 v1 v2 v3 : Nat} {fa fb : Bool} (hk : k < 16) (h0 : v0 < 2) (h1 : v1 < 2) (h2 : v2 < 2) (h3 : v3 < 2) (h : okB k v0 v1 v2 v3 fa fb = true) :
    okB k 0 v1 v2 v3 fa fb = true ∧ okB k v0 0 v2 v3 fa fb = true ∧ okB k v0 v1 0 v3 fa fb = true ∧ okB k v0 v1 v2 v3 false fb = true ∧ okB k v0 v1 v2 1 fa fb = (k == 12 || k == 13) := by
  have a := less_all
  simp only [List.all_eq_true, List.mem_range] at a
  have b := a k hk v0 h0 v1 h1 v2 h2 v3 h3 fa (by cases fa <;> simp) fb (by cases fb <;> simp)
  rw [h] at b
  simp only [Bool.not_true, Bool.false_or, Bool.and_eq_true, beq_iff_eq] at b
  exact ⟨b.1.1.1.1, b.1.1.1.2, b.1.1.2, b.1.2, b.2⟩
theorem fits_okB (x : Ask) (hx : x.Wf) : x.fits = (decide (0 < x.k ∧ x.k < 16) && decide x.small && okB x.k (min x.i 1).toNat (min x.p 1).toNat (min x.n 1).toNat (min x.m 1).toNat (decide ([x.a0, x.a1, x.a2] ≠ [0, 0, 0])) (decide ([x.b0, x.b1, x.b2] ≠ [0, 0, 0]))) := by
  have e : ∀ z : Int, 0 ≤ z → (((min z 1).toNat : Nat) : Int) = min z 1 := fun z hz => by omega
  unfold Ask.fits Ask.has okB
  rw [e _ hx.i.1, e _ hx.p.1, e _ hx.n.1, e _ hx.m.1]
theorem all3 {p q : Prop} [Decidable p] [Decidable q] {r b : Bool} (hp : p) (hq : q) (h : r = b) : (decide p && decide q && r) = b := by
  rw [decide_eq_true hp, decide_eq_true hq, Bool.true_and, Bool.true_and, h]
theorem min2 (z : Int) : (min z 1).toNat < 2 := by omega
theorem fits_parts {x : Ask} (hx : x.Wf) (h : x.fits = true) : (0 < x.k ∧ x.k < 16) ∧ x.small ∧ okB x.k (min x.i 1).toNat (min x.p 1).toNat (min x.n 1).toNat (min x.m 1).toNat (decide ([x.a0, x.a1, x.a2] ≠ [0, 0, 0])) (decide ([x.b0, x.b1, x.b2] ≠ [0, 0, 0])) = true := by
  rw [fits_okB x hx] at h
  simpa [Bool.and_eq_true, and_assoc] using h
theorem fits_i (x : Ask) (hx : x.Wf) (h : x.fits = true) : (Ask.mk x.k 0 x.p x.a0 x.a1 x.a2 x.b0 x.b1 x.b2 x.n x.m).fits = true := by
  obtain ⟨h1, h2, h3⟩ := fits_parts hx h
  refine (fits_okB _ ?_).trans ?_
  · exact ⟨hx.k, by simp, hx.p, hx.a0, hx.a1, hx.a2, hx.b0, hx.b1, hx.b2, hx.n, hx.m⟩
  have := (less h1.2 (min2 _) (min2 _) (min2 _) (min2 _) h3).1
  exact all3 h1 h2 this
theorem fits_p (x : Ask) (hx : x.Wf) (h : x.fits = true) : (Ask.mk x.k x.i 0 x.a0 x.a1 x.a2 x.b0 x.b1 x.b2 x.n x.m).fits = true := by
  obtain ⟨h1, h2, h3⟩ := fits_parts hx h
  refine (fits_okB _ ?_).trans ?_
  · exact ⟨hx.k, hx.i, by simp, hx.a0, hx.a1, hx.a2, hx.b0, hx.b1, hx.b2, hx.n, hx.m⟩
  have := (less h1.2 (min2 _) (min2 _) (min2 _) (min2 _) h3).2.1
  exact all3 h1 h2 this
theorem fits_n (x : Ask) (hx : x.Wf) (h : x.fits = true) : (Ask.mk x.k x.i x.p x.a0 x.a1 x.a2 x.b0 x.b1 x.b2 0 x.m).fits = true := by
  obtain ⟨h1, h2, h3⟩ := fits_parts hx h
  refine (fits_okB _ ?_).trans ?_
  · exact ⟨hx.k, hx.i, hx.p, hx.a0, hx.a1, hx.a2, hx.b0, hx.b1, hx.b2, by simp, hx.m⟩
  have := (less h1.2 (min2 _) (min2 _) (min2 _) (min2 _) h3).2.2.1
  exact all3 h1 h2 this
theorem fits_a (x : Ask) (hx : x.Wf) (h : x.fits = true) : (Ask.mk x.k x.i x.p 0 0 0 x.b0 x.b1 x.b2 x.n x.m).fits = true := by
  obtain ⟨h1, h2, h3⟩ := fits_parts hx h
  refine (fits_okB _ ?_).trans ?_
  · exact ⟨hx.k, hx.i, hx.p, by simp, by simp, by simp, hx.b0, hx.b1, hx.b2, hx.n, hx.m⟩
  have := (less h1.2 (min2 _) (min2 _) (min2 _) (min2 _) h3).2.2.2.1
  exact all3 h1 ⟨by simp, by simp, by simp, h2.2.2.2⟩ this
theorem fits_m1 (x : Ask) (hx : x.Wf) (h : x.fits = true) : (Ask.mk x.k x.i x.p x.a0 x.a1 x.a2 x.b0 x.b1 x.b2 x.n 1).fits = (x.k == 12 || x.k == 13) := by
  obtain ⟨h1, h2, h3⟩ := fits_parts hx h
  refine (fits_okB _ ?_).trans ?_
  · exact ⟨hx.k, hx.i, hx.p, hx.a0, hx.a1, hx.a2, hx.b0, hx.b1, hx.b2, hx.n, by simp⟩
  have := (less h1.2 (min2 _) (min2 _) (min2 _) (min2 _) h3).2.2.2.2
  exact all3 h1 h2 this
theorem fits_a1 (x : Ask) : (Ask.mk x.k x.i x.p x.a0 1099511627777 x.a2 x.b0 x.b1 x.b2 x.n x.m).fits = false := by
  unfold Ask.fits
  rw [decide_eq_false (p := Ask.small _) (fun h => by have := h.2.1; simp at this)]
  simp
end Go.Proofs.YtnpcpmiomimphaaDoor
