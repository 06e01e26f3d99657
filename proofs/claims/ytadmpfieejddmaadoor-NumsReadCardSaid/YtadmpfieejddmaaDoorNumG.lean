/-
  Contracts of package nums: GetBytes, and of package slices' Clone and Clip.
-/
import Derived.Test.YtadmpfieejddmaaDoorNums3
import Derived.Test.YtadmpfieejddmaaDoorLitG
import Derived.Lib.AppendZerosOnto
namespace Go.Proofs.YtadmpfieejddmaaDoor
open Go.RowKit

theorem addr_add0 (a : Addr) : a.add 0 = a := by unfold Addr.add; simp
theorem map_add0 (A : Option Addr) : A.map (·.add 0) = A := by cases A <;> simp [addr_add0]

/-- s[:cap(s)], s[:len(s):len(s)]: what the operations give. -/
theorem run_full {P : Program} {t e : TypeId} (ht : P.underlying t = some (.slice e)) (hs : (P.info? e).map (·.size) = some 1) (A : Option Addr) (n cap : Nat) (W : World) :
    (Instr.slice t (.slice A n cap) none (some (.int .i64 (cap : Int))) none).run P W = .ok (.slice A cap cap) W := by
  obtain ⟨i, hi', hz⟩ := Option.map_eq_some_iff.1 hs
  simp [Instr.slice, run_underlying ht, Instr.sliceBounds, Instr.sliceBound, asIntOf, sizeOf, typeInfo, hi']
  cases A <;> simp [addr_add0]
theorem run_head {P : Program} {t e : TypeId} {size : Nat} (ht : P.underlying t = some (.slice e)) (hs : (P.info? e).map (·.size) = some size) (A : Option Addr) (n cap k : Nat) (hk : k ≤ cap) (W : World) :
    (Instr.slice t (.slice A n cap) none (some (.int .i64 (k : Int))) none).run P W = .ok (.slice A k cap) W := by
  obtain ⟨i, hi', hz⟩ := Option.map_eq_some_iff.1 hs
  simp [Instr.slice, run_underlying ht, Instr.sliceBounds, Instr.sliceBound, asIntOf, sizeOf, typeInfo, hi', hk]
  cases A <;> simp [addr_add0]
theorem run_clip {P : Program} {t e : TypeId} {size : Nat} (ht : P.underlying t = some (.slice e)) (hs : (P.info? e).map (·.size) = some size) (A : Option Addr) (n cap : Nat) (hk : n ≤ cap) (W : World) :
    (Instr.slice t (.slice A n cap) none (some (.int .i64 (n : Int))) (some (.int .i64 (n : Int)))).run P W = .ok (.slice A n n) W := by
  obtain ⟨i, hi', hz⟩ := Option.map_eq_some_iff.1 hs
  simp [Instr.slice, run_underlying ht, Instr.sliceBounds, Instr.sliceBound, asIntOf, sizeOf, typeInfo, hi', hk]
  cases A <;> simp [addr_add0]

set_option maxHeartbeats 400000 in
/-- slices.Clone at bytes: new memory, the same bytes. -/
theorem clone_any (A : Option Addr) (n cap : Nat) (l : List UInt8) (hn : n ≤ 70368744177664) (w : World) (hr : Rd w 1 A n cap (bvs l)) :
    Calls Tryd.prog 20 #[.slice A n cap] w fun e w' => ∃ A' n' cap', e = .returned (.slice A' n' cap') ∧
      w'.ownsRow w.heap.size 5 1 (.slice A' n' cap') n' (bvs l) ∧ Ext w w' := by
  have hl := hr.blen
  have hq := fun W a n c => Lib.run_eql_slice_nil (P := Tryd.prog) W 22 5 a n c 0 0 Tryd.underlying22
  cases A with
  | none =>
    obtain rfl : cap = 0 := hr.nil rfl
    obtain rfl : n = 0 := by have := hr.le; omega
    obtain rfl : l = [] := List.eq_nil_of_length_eq_zero hl
    go_enter Tryd.func20, Tryd.ntmps20
    go_wp2_with (fail)
    go_ret
    exact ⟨none, 0, 0, rfl, World.ownsRow_nil _ _ _ _, Ext.refl _⟩
  | some p =>
    have Hl := Lib.hid hl
    clear hl
    have hmade := World.ownsRow_made (base := w.heap.size) (size := 1) (e := 5) w #[] 0 (Nat.le_refl _) (by simp [maxLen]) rfl
    go_enter Tryd.func20, Tryd.ntmps20
    go_wp2_with (at_builtin; refine wpl_append rfl _ _ _ rfl Tryd.underlying22 info_u8 rfl (by decide) rfl rfl hmade (hr.alloc _) (bvs_oneCell _) (by simp only [maxLen]; omega) (by omega) (by simp) ?_; intro A2 n2 c2 w2 hn2 hown2 hg2 _)
    go_ret
    refine ⟨_, _, _, rfl, by simpa using hown2, ((Ext.refl _).alloc _).grown hg2 (by simp [Value.ownBlock])⟩

set_option maxHeartbeats 400000 in
/-- slices.Clip at bytes. -/
theorem clip_any (A : Option Addr) (n cap : Nat) (hn : n ≤ cap) (w : World) :
    Calls Tryd.prog 19 #[.slice A n cap] w fun e w' => e = .returned (.slice A n n) ∧ w = w' := by
  have hc := fun W => run_clip Tryd.underlying22 info_u8s A n cap hn W
  go_enter Tryd.func19, Tryd.ntmps19
  go_wp2
  go_ret
  exact ⟨rfl, rfl⟩

theorem row_told (x y : Int) (W : World) : (Instr.field 51 (.agg #[.int .i64 x, .int .i64 y]) 0).run Tryd.prog W = .ok (.int .i64 x) W := by kernel_rfl

set_option maxHeartbeats 400000 in
/-- **nums.GetBytes**, where they are not there. -/
theorem getBytes_noneO (A : Option Addr) (n cap : Nat) (l : List UInt8) (w : World) (hr : Rd w 1 A n cap (bvs l)) (h : n < 4 ∨ n < 4 + ofBe (l.take 4)) :
    Calls Tryd.prog 6 #[.slice A n cap] w fun e w' => ∃ A' c', e = .returned (.tuple #[.slice A' 0 0, .int .i64 0, .int .i64 5]) ∧ w'.ownsRow w.heap.size 5 1 (.slice A' 0 c') 0 [] ∧ Ext w w' := by
  have cut : ∀ W, Ext w W → Calls Tryd.prog 18 #[.agg #[.int .i64 4, .int .i64 1], .slice A n cap] W fun e w' => e = .returned (.tuple #[.slice none 0 0, .int .i64 0, .int .i64 5]) ∧ Ext W w' := by
    intro W hW
    by_cases h1 : n < 4
    · exact cut_short A n cap l 4 1 (by omega) W (hr.ext hW) h1
    · exact cut_over A n cap l 4 1 (by omega) (by omega) (by omega) W (hr.ext hW) (by omega) (by omega)
  have Hcut := Lib.hid cut
  clear cut hr
  go_enter Tryd.func6, Tryd.ntmps6
  go_wp2_with (first
    | (go_at_call 17; refine (ofBytes_any _).mono ?_; rintro e w1 ⟨rfl, hx1⟩)
    | (go_at_call 18; refine (Hcut.out _ hx1).mono ?_; rintro e w2 ⟨rfl, hx2⟩)
    | (go_at_call 20; refine (clone_any none 0 0 [] (by omega) _ (Rd.nil_ _ _)).mono ?_; rintro e w3 ⟨A3, n3, c3, rfl, ho3, hx3⟩)
    | (go_at_call 19; refine (clip_any _ _ _ (Rd.of_own ho3).le _).mono ?_; rintro e w4 ⟨rfl, rfl⟩))
  go_ret3
  have : n3 = 0 := by have := (Rd.of_own ho3).blen; simpa using this.symm
  subst this
  exact ⟨A3, c3, rfl, own_mono ho3 (hx1.trans hx2).size, (hx1.trans hx2).trans hx3⟩
theorem getBytes_none (A : Option Addr) (n cap : Nat) (l : List UInt8) (w : World) (hr : Rd w 1 A n cap (bvs l)) (h : n < 4 ∨ n < 4 + ofBe (l.take 4)) :
    Calls Tryd.prog 6 #[.slice A n cap] w fun e w' => ∃ A', e = .returned (.tuple #[.slice A' 0 0, .int .i64 0, .int .i64 5]) ∧ Ext w w' :=
  (getBytes_noneO A n cap l w hr h).mono fun _ _ ⟨A', _, h1, _, h3⟩ => ⟨A', h1, h3⟩
set_option maxHeartbeats 400000 in
/-- **nums.GetBytes**, where they are there: new memory. -/
theorem getBytes_some (A : Option Addr) (n cap : Nat) (l : List UInt8) (w : World) (hn : n ≤ 70368744177664) (hr : Rd w 1 A n cap (bvs l)) (h : 4 + ofBe (l.take 4) ≤ n) :
    Calls Tryd.prog 6 #[.slice A n cap] w fun e w' => ∃ A' n' cap', e = .returned (.tuple #[.slice A' n' n', .int .i64 (4 + (n' : Int)), .int .i64 0]) ∧ n' = ofBe (l.take 4) ∧
      w'.ownsRow w.heap.size 5 1 (.slice A' n' cap') n' (bvs ((l.drop 4).take n')) ∧ Ext w w' := by
  go_enter Tryd.func6, Tryd.ntmps6
  go_wp2_with (first
    | (go_at_call 17; refine (ofBytes_any _).mono ?_; rintro e w1 ⟨rfl, hx1⟩)
    | (go_at_call 18; refine (cut_some A n cap l 4 1 (by omega) (by omega) (by omega) _ (hr.ext hx1) (by omega)).mono ?_; rintro e w2 ⟨A2, n2, c2, rfl, hn2, hr2, hx2⟩; have Hn2 := Lib.hid hn2; clear hn2)
    | (go_at_call 20; refine (clone_any A2 n2 c2 _ (by have := Hn2.out; omega) _ hr2).mono ?_; rintro e w3 ⟨A3, n3, c3, rfl, ho3, hx3⟩)
    | (go_at_call 19; refine (clip_any _ _ _ (Rd.of_own ho3).le _).mono ?_; rintro e w4 ⟨rfl, rfl⟩))
  go_ret3
  have hl := hr.blen
  have e2 := Hn2.out
  have e3 : n3 = n2 := by
    have := (Rd.of_own ho3).blen
    rw [List.length_take, List.length_drop] at this; omega
  subst e3
  exact ⟨A3, n3, c3, rfl, by omega, own_mono ho3 (hx1.trans hx2).size, (hx1.trans hx2).trans hx3⟩
theorem Rd.clip {w : World} {size : Nat} {A : Option Addr} {n cap : Nat} {xs : List Value} (h : Rd w size A n cap xs) : Rd w size A n n xs :=
  ⟨Nat.le_refl _, by have := h.le; have := h.top; omega, h.len, fun e => by have := h.nil e; have := h.le; omega, h.at_⟩
end Go.Proofs.YtadmpfieejddmaaDoor
