/-
  Contracts of package nums: PutBytes, GetBytes, PutSums, GetSums.
-/
import Derived.Test.YtadmpfieejddmaaNums4
namespace Go.Proofs.Ytadmpfieejddmaa
open Go.RowKit

theorem rd_new (w : World) (cs : Array Value) (e : TypeId) (n : Nat) (hn : cs.size = n) (h : n ≤ 1000000) : Rd (w.alloc (.cells cs e)) 1 (some ⟨w.heap.size, 0, none⟩) n n cs.toList :=
  ⟨Nat.le_refl _, by simp only [maxLen]; omega, by simp [hn], (fun h => by cases h), fun _ => ⟨_, 0, rfl, fun j _ => by rw [cell_of_row _ w.heap.size (0 + j) cs e (0, 0) (heap_alloc_new w _)]; simp⟩⟩

theorem row_told (x y : Int) (W : World) : (Instr.field 49 (.agg #[.int .i64 x, .int .i64 y]) 0).run Try.prog W = .ok (.int .i64 x) W := by kernel_rfl

set_option maxHeartbeats 400000 in
/-- **nums.PutBytes** -/
theorem putBytes_any (A : Option Addr) (m cap : Nat) (l : List UInt8) (A2 : Option Addr) (m2 cap2 : Nat) (l2 : List UInt8) (hm : m + m2 ≤ 35184372088832) (w : World) (hr : Rd w 1 A m cap (bvs l)) (hr2 : Rd w 1 A2 m2 cap2 (bvs l2)) :
    Calls Try.prog 16 #[.slice A m cap, .slice A2 m2 cap2] w fun e w' => ∃ A' n' cap', e = .returned (.slice A' n' cap') ∧
      w'.ownsRow w.heap.size 5 1 (.slice A' n' cap') n' (bvs (l ++ be 4 l2.length ++ l2)) ∧ Ext w w' := by
  have hl := hr.blen
  have hl2 := hr2.blen
  have Hl := Lib.hid hl
  have Hl2 := Lib.hid hl2
  clear hl hl2
  have hf := row_told
  go_enter Try.func16, Try.ntmps16
  go_wp2_with (first
    | (go_at_call 17; refine (ofBytes_any _).mono ?_; rintro e w1 ⟨rfl, hx1⟩)
    | (go_at_call 7; refine (put_any _ _ _ l m2 4 _ (by omega) (by omega) (by omega) _ (hr.ext hx1)).mono ?_; rintro e w2 ⟨A3, n3, c3, rfl, ho3, hx2⟩)
    | (go_at_call 24; refine (concat_any _ _ _ [⟨A3, n3, c3, l ++ be 4 m2⟩, ⟨A2, m2, cap2, l2⟩] _ (rd_new w2 _ _ 2 rfl (by omega)) ?_ ?_).mono ?_))
  case refine_1 =>
    intro p hp
    simp at hp
    rcases hp with rfl | rfl
    · exact (Rd.of_own ho3).alloc _
    · exact (hr2.ext (hx1.trans hx2)).alloc _
  case refine_2 => simp [pieces, be_length, Hl.out, Hl2.out]; omega
  rintro e w3 ⟨A4, n4, c4, rfl, ho4, hx4⟩
  go_wp2
  go_ret
  have hx := (hx1.trans hx2).alloc (.cells #[.slice A3 n3 c3, .slice A2 m2 cap2] 23)
  refine ⟨_, _, _, rfl, ?_, hx.trans hx4⟩
  rw [Hl2.out]
  have := own_mono ho4 hx.size
  simpa [pieces] using this
set_option maxHeartbeats 400000 in
/-- **nums.GetBytes**, where they are not there. -/
theorem getBytes_none (A : Option Addr) (n cap : Nat) (l : List UInt8) (w : World) (hr : Rd w 1 A n cap (bvs l)) (h : n < 4 ∨ n < 4 + ofBe (l.take 4)) :
    Calls Try.prog 11 #[.slice A n cap] w fun e w' => ∃ A', e = .returned (.tuple #[.slice A' 0 0, .int .i64 0, .int .i64 5]) ∧ Ext w w' := by
  have cut : ∀ W, Ext w W → Calls Try.prog 18 #[.agg #[.int .i64 4, .int .i64 1], .slice A n cap] W fun e w' => e = .returned (.tuple #[.slice none 0 0, .int .i64 0, .int .i64 5]) ∧ Ext W w' := by
    intro W hW
    by_cases h1 : n < 4
    · exact cut_short A n cap l 4 1 (by omega) W (hr.ext hW) h1
    · exact cut_over A n cap l 4 1 (by omega) (by omega) (by omega) W (hr.ext hW) (by omega) (by omega)
  have Hcut := Lib.hid cut
  clear cut hr
  go_enter Try.func11, Try.ntmps11
  go_wp2_with (first
    | (go_at_call 17; refine (ofBytes_any _).mono ?_; rintro e w1 ⟨rfl, hx1⟩)
    | (go_at_call 18; refine (Hcut.out _ hx1).mono ?_; rintro e w2 ⟨rfl, hx2⟩)
    | (go_at_call 20; refine (clone_any none 0 0 [] (by omega) _ (Rd.nil_ _ _)).mono ?_; rintro e w3 ⟨A3, n3, c3, rfl, ho3, hx3⟩)
    | (go_at_call 19; refine (clip_any _ _ _ (Rd.of_own ho3).le _).mono ?_; rintro e w4 ⟨rfl, rfl⟩))
  go_ret3
  have : n3 = 0 := by have := (Rd.of_own ho3).blen; simpa using this.symm
  exact ⟨A3, by rw [← this]; rfl, (hx1.trans hx2).trans hx3⟩
set_option maxHeartbeats 400000 in
/-- **nums.GetBytes**, where they are there: new memory. -/
theorem getBytes_some (A : Option Addr) (n cap : Nat) (l : List UInt8) (w : World) (hn : n ≤ 70368744177664) (hr : Rd w 1 A n cap (bvs l)) (h : 4 + ofBe (l.take 4) ≤ n) :
    Calls Try.prog 11 #[.slice A n cap] w fun e w' => ∃ A' n' cap', e = .returned (.tuple #[.slice A' n' n', .int .i64 (4 + (n' : Int)), .int .i64 0]) ∧ n' = ofBe (l.take 4) ∧
      w'.ownsRow w.heap.size 5 1 (.slice A' n' cap') n' (bvs ((l.drop 4).take n')) ∧ Ext w w' := by
  go_enter Try.func11, Try.ntmps11
  go_wp2_with (first
    | (go_at_call 17; refine (ofBytes_any _).mono ?_; rintro e w1 ⟨rfl, hx1⟩)
    | (go_at_call 18; refine (cut_some A n cap l 4 1 (by omega) (by omega) (by omega) _ (hr.ext hx1) (by omega)).mono ?_; rintro e w2 ⟨A2, n2, c2, rfl, hn2, hr2, hx2⟩; have Hn2 := Lib.hid hn2; clear hn2)
    | (go_at_call 20; refine (clone_any A2 n2 c2 _ (by have := Hn2.out; omega) _ hr2).mono ?_; rintro e w3 ⟨A3, n3, c3, rfl, ho3, hx3⟩)
    | (go_at_call 19; refine (clip_any _ _ _ (Rd.of_own ho3).le _).mono ?_; rintro e w4 ⟨rfl, rfl⟩))
  go_ret3
  have hl := hr.blen
  have e2 := Hn2.out
  have e3 : n3 = n2 := by
    have := (Rd.of_own ho3).blen
    rw [List.length_take, List.length_drop] at this; omega
  subst e3
  exact ⟨A3, n3, c3, rfl, by omega, own_mono ho3 (hx1.trans hx2).size, (hx1.trans hx2).trans hx3⟩
theorem Rd.clip {w : World} {size : Nat} {A : Option Addr} {n cap : Nat} {xs : List Value} (h : Rd w size A n cap xs) : Rd w size A n n xs :=
  ⟨Nat.le_refl _, by have := h.le; have := h.top; omega, h.len, fun e => by have := h.nil e; have := h.le; omega, h.at_⟩
end Go.Proofs.Ytadmpfieejddmaa
