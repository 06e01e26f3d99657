/-
  EventsFits: the walk.
-/
import Derived.Test.YtnpcpmiomimphaaDoorEv7
import Derived.Test.YtnpcpmiomimphaaDoorSz
set_option linter.unusedVariables false
set_option linter.unusedSimpArgs false
namespace Go.Proofs.YtnpcpmiomimphaaDoor
open Go.RowKit

/-- the table lies there. -/
def laidE : Ent :=
  ⟨false, (· = 0), Laid,
   fun w w' hk h k hk16 => by
    have hb := World.block_lt_of_cell? w _ (h k hk16)
    exact (World.cell?_of_block (w := w) (hk.block _ rfl hb)).trans (h k hk16),
   fun w h b hb => by
    have := World.block_lt_of_cell? w _ (h 0 (by decide))
    obtain rfl : b = 0 := hb
    exact this⟩
theorem holds_laid {w : World} (h : Laid w) : Holds w [laidE, base w] := (holds_base w).add h (by intro x hx; simp only [List.mem_singleton] at hx; subst hx; exact .inl ⟨rfl, rfl⟩)
theorem fits_h {k : Nat} {i p a0 a1 a2 b0 b1 b2 n m : Int} {f : Bool} {w : World} {L : List Ent} (H : Holds w L) (hl : laidE ∈ L) (hxf : (Ask.mk k i p a0 a1 a2 b0 b1 b2 n m).Wf ∧ (Ask.mk k i p a0 a1 a2 b0 b1 b2 n m).fits = f) :
    Calls Tryd.prog 13 #[.agg #[.int .u8 k, .int .u32 i, .int .u32 p, .int .u64 a0, .int .u64 a1, .int .u64 a2, .int .u64 b0, .int .u64 b1, .int .u64 b2, .int .u64 n, .int .u64 m]] w fun e w' => e = .returned (.bool f) ∧ Holds w' L := by
  obtain ⟨hx, rfl⟩ := hxf; exact (fits_any (Ask.mk k i p a0 a1 a2 b0 b1 b2 n m) hx w (H.all _ hl)).mono fun _ _ h => ⟨h.1, H.ext h.2⟩
theorem lives_h {w : World} {L : List Ent} (H : Holds w L) (hl : laidE ∈ L) :
    Calls Tryd.prog 9 #[] w fun e w' => e = .returned (.bool true) ∧ Holds w' L :=
  (lives_any w (H.all _ hl)).mono fun _ _ h => ⟨h.1, H.ext h.2⟩

set_option maxRecDepth 100000 in
set_option maxHeartbeats 1000000 in
theorem fitsLaw (k : Nat) (i p a0 a1 a2 b0 b1 b2 n m wh : Int) (h0 : 0 ≤ wh) (h1 : wh ≤ 255) (hx : (Ask.mk k i p a0 a1 a2 b0 b1 b2 n m).Wf) {W : World} {L : List Ent} (H : Holds W (laidE :: L)) :
    Calls Tryd.prog 5 #[.agg #[.int .u8 k, .int .u32 i, .int .u32 p, .int .u64 a0, .int .u64 a1, .int .u64 a2, .int .u64 b0, .int .u64 b1, .int .u64 b2, .int .u64 n, .int .u64 m], .int .u8 wh] W fun e w' => e = .returned (.bool true) ∧ Holds w' (laidE :: L) := by
  cases hf : (Ask.mk k i p a0 a1 a2 b0 b1 b2 n m).fits with
  | false =>
    have Hf := Lib.hid (And.intro hx hf)
    clear hf hx
    go_enter Tryd.func5, Tryd.ntmps5
    go_wp2_with (first | ((with_reducible refine wpl_absorb H ?_); clear H; (try generalize W.heap.size = b); clear W; intro W H) | ((with_reducible refine wpl_drew H ?_); clear H; clear W; intro W H) | ((with_reducible refine wpl_drewN H ?_); clear H; clear W; intro W H) | ((with_reducible apply wpl_load H); (case hs => exact sc _ rfl); (case hw => rfl); (case hx => rfl); (case hm => (repeat (first | with_reducible exact List.mem_cons_self | with_reducible apply List.mem_cons_of_mem))); (case hv => rfl)) | ((with_reducible apply wpl_loadA H); (case hs => exact ag _ _ rfl); (case hw => rfl); (case hx => rfl); (case hm => (repeat (first | with_reducible exact List.mem_cons_self | with_reducible apply List.mem_cons_of_mem))); (case hv => rfl); (case hl => rfl); (try simp only [List.drop_zero, List.drop_succ_cons, List.take_succ_cons, List.take_zero, List.take_nil])) | ((with_reducible apply wpl_store H); (case hw => rfl); (case hx => rfl); (case hy => rfl); (case hm => (repeat (first | with_reducible exact Upd.here | with_reducible refine Upd.there ?_))); (case hs => first | exact sz_sc _ rfl | exact sz_ag _ _ rfl); (case h1 => rfl); (case hk => exact Nat.le_of_ble_eq_true rfl); clear H; clear W; intro W H; simp only [setL, List.set_cons_zero, List.set_cons_succ] at H) | ((go_at_call 13); (first | (with_reducible refine (fits_h H ?_ Hf.out).mono ?_); (· (repeat (first | with_reducible exact List.mem_cons_self | with_reducible apply List.mem_cons_of_mem)))); clear H; clear W; rintro e W ⟨rfl, H⟩) | ((go_at_call 9); (refine (lives_h H (by (repeat (first | with_reducible exact List.mem_cons_self | with_reducible apply List.mem_cons_of_mem)))).mono ?_); clear H; clear W; rintro e W ⟨rfl, H⟩))
    go_ret
    exact ⟨by first | rfl | trivial, H.tail⟩
  | true =>
    have Hf := Lib.hid (And.intro hx hf)
    have H0 := Lib.hid (And.intro (Ask.Wf.mk (x := Ask.mk k 0 p a0 a1 a2 b0 b1 b2 n m) hx.k (by simp) hx.p hx.a0 hx.a1 hx.a2 hx.b0 hx.b1 hx.b2 hx.n hx.m) (fits_i _ hx hf))
    have H3 := Lib.hid (And.intro (Ask.Wf.mk (x := Ask.mk k i 0 a0 a1 a2 b0 b1 b2 n m) hx.k hx.i (by simp) hx.a0 hx.a1 hx.a2 hx.b0 hx.b1 hx.b2 hx.n hx.m) (fits_p _ hx hf))
    have H2 := Lib.hid (And.intro (Ask.Wf.mk (x := Ask.mk k i p a0 a1 a2 b0 b1 b2 0 m) hx.k hx.i hx.p hx.a0 hx.a1 hx.a2 hx.b0 hx.b1 hx.b2 (by simp) hx.m) (fits_n _ hx hf))
    have H1 := Lib.hid (And.intro (Ask.Wf.mk (x := Ask.mk k i p 0 0 0 b0 b1 b2 n m) hx.k hx.i hx.p (by simp) (by simp) (by simp) hx.b0 hx.b1 hx.b2 hx.n hx.m) (fits_a _ hx hf))
    have Hm := Lib.hid (And.intro (Ask.Wf.mk (x := Ask.mk k i p a0 a1 a2 b0 b1 b2 n 1) hx.k hx.i hx.p hx.a0 hx.a1 hx.a2 hx.b0 hx.b1 hx.b2 hx.n (by simp)) (fits_m1 _ hx hf))
    have Ha1 := Lib.hid (And.intro (Ask.Wf.mk (x := Ask.mk k i p a0 1099511627777 a2 b0 b1 b2 n m) hx.k hx.i hx.p hx.a0 (by simp) hx.a2 hx.b0 hx.b1 hx.b2 hx.n hx.m) (fits_a1 (Ask.mk k i p a0 a1 a2 b0 b1 b2 n m)))
    have hm : wh % 4 = 0 ∨ wh % 4 = 1 ∨ wh % 4 = 2 ∨ wh % 4 = 3 := by omega
    have k12 : ((k : Int) == 12) = (k == 12) := by rw [Bool.eq_iff_iff]; simp; omega
    have k13 : ((k : Int) == 13) = (k == 13) := by rw [Bool.eq_iff_iff]; simp; omega
    clear hf hx
    rcases hm with w0 | w0 | w0 | w0
    · go_enter Tryd.func5, Tryd.ntmps5
      cases h12 : (k == 12)
      all_goals
        cases h13 : (k == 13)
      all_goals
        rw [h12] at k12
        rw [h13] at k13
        simp only [h12, h13] at Hm
        clear h12 h13
        go_wp2_with (first | ((with_reducible refine wpl_absorb H ?_); clear H; (try generalize W.heap.size = b); clear W; intro W H) | ((with_reducible refine wpl_drew H ?_); clear H; clear W; intro W H) | ((with_reducible refine wpl_drewN H ?_); clear H; clear W; intro W H) | ((with_reducible apply wpl_load H); (case hs => exact sc _ rfl); (case hw => rfl); (case hx => rfl); (case hm => (repeat (first | with_reducible exact List.mem_cons_self | with_reducible apply List.mem_cons_of_mem))); (case hv => rfl)) | ((with_reducible apply wpl_loadA H); (case hs => exact ag _ _ rfl); (case hw => rfl); (case hx => rfl); (case hm => (repeat (first | with_reducible exact List.mem_cons_self | with_reducible apply List.mem_cons_of_mem))); (case hv => rfl); (case hl => rfl); (try simp only [List.drop_zero, List.drop_succ_cons, List.take_succ_cons, List.take_zero, List.take_nil])) | ((with_reducible apply wpl_store H); (case hw => rfl); (case hx => rfl); (case hy => rfl); (case hm => (repeat (first | with_reducible exact Upd.here | with_reducible refine Upd.there ?_))); (case hs => first | exact sz_sc _ rfl | exact sz_ag _ _ rfl); (case h1 => rfl); (case hk => exact Nat.le_of_ble_eq_true rfl); clear H; clear W; intro W H; simp only [setL, List.set_cons_zero, List.set_cons_succ] at H) | ((go_at_call 13); (first | (with_reducible refine (fits_h H ?_ Hf.out).mono ?_); (· (repeat (first | with_reducible exact List.mem_cons_self | with_reducible apply List.mem_cons_of_mem))) | (with_reducible refine (fits_h H ?_ H0.out).mono ?_); (· (repeat (first | with_reducible exact List.mem_cons_self | with_reducible apply List.mem_cons_of_mem))) | (with_reducible refine (fits_h H ?_ Ha1.out).mono ?_); (· (repeat (first | with_reducible exact List.mem_cons_self | with_reducible apply List.mem_cons_of_mem))) | (with_reducible refine (fits_h H ?_ Hm.out).mono ?_); (· (repeat (first | with_reducible exact List.mem_cons_self | with_reducible apply List.mem_cons_of_mem)))); clear H; clear W; rintro e W ⟨rfl, H⟩) | ((go_at_call 9); (refine (lives_h H (by (repeat (first | with_reducible exact List.mem_cons_self | with_reducible apply List.mem_cons_of_mem)))).mono ?_); clear H; clear W; rintro e W ⟨rfl, H⟩))
        go_ret
        exact ⟨by first | rfl | trivial, H.tail.tail.tail.tail⟩
    · go_enter Tryd.func5, Tryd.ntmps5
      cases h12 : (k == 12)
      all_goals
        cases h13 : (k == 13)
      all_goals
        rw [h12] at k12
        rw [h13] at k13
        simp only [h12, h13] at Hm
        clear h12 h13
        go_wp2_with (first | ((with_reducible refine wpl_absorb H ?_); clear H; (try generalize W.heap.size = b); clear W; intro W H) | ((with_reducible refine wpl_drew H ?_); clear H; clear W; intro W H) | ((with_reducible refine wpl_drewN H ?_); clear H; clear W; intro W H) | ((with_reducible apply wpl_load H); (case hs => exact sc _ rfl); (case hw => rfl); (case hx => rfl); (case hm => (repeat (first | with_reducible exact List.mem_cons_self | with_reducible apply List.mem_cons_of_mem))); (case hv => rfl)) | ((with_reducible apply wpl_loadA H); (case hs => exact ag _ _ rfl); (case hw => rfl); (case hx => rfl); (case hm => (repeat (first | with_reducible exact List.mem_cons_self | with_reducible apply List.mem_cons_of_mem))); (case hv => rfl); (case hl => rfl); (try simp only [List.drop_zero, List.drop_succ_cons, List.take_succ_cons, List.take_zero, List.take_nil])) | ((with_reducible apply wpl_store H); (case hw => rfl); (case hx => rfl); (case hy => rfl); (case hm => (repeat (first | with_reducible exact Upd.here | with_reducible refine Upd.there ?_))); (case hs => first | exact sz_sc _ rfl | exact sz_ag _ _ rfl); (case h1 => rfl); (case hk => exact Nat.le_of_ble_eq_true rfl); clear H; clear W; intro W H; simp only [setL, List.set_cons_zero, List.set_cons_succ] at H) | ((go_at_call 13); (first | (with_reducible refine (fits_h H ?_ Hf.out).mono ?_); (· (repeat (first | with_reducible exact List.mem_cons_self | with_reducible apply List.mem_cons_of_mem))) | (with_reducible refine (fits_h H ?_ H1.out).mono ?_); (· (repeat (first | with_reducible exact List.mem_cons_self | with_reducible apply List.mem_cons_of_mem))) | (with_reducible refine (fits_h H ?_ Ha1.out).mono ?_); (· (repeat (first | with_reducible exact List.mem_cons_self | with_reducible apply List.mem_cons_of_mem))) | (with_reducible refine (fits_h H ?_ Hm.out).mono ?_); (· (repeat (first | with_reducible exact List.mem_cons_self | with_reducible apply List.mem_cons_of_mem)))); clear H; clear W; rintro e W ⟨rfl, H⟩) | ((go_at_call 9); (refine (lives_h H (by (repeat (first | with_reducible exact List.mem_cons_self | with_reducible apply List.mem_cons_of_mem)))).mono ?_); clear H; clear W; rintro e W ⟨rfl, H⟩))
        go_ret
        exact ⟨by first | rfl | trivial, H.tail.tail.tail.tail⟩
    · go_enter Tryd.func5, Tryd.ntmps5
      cases h12 : (k == 12)
      all_goals
        cases h13 : (k == 13)
      all_goals
        rw [h12] at k12
        rw [h13] at k13
        simp only [h12, h13] at Hm
        clear h12 h13
        go_wp2_with (first | ((with_reducible refine wpl_absorb H ?_); clear H; (try generalize W.heap.size = b); clear W; intro W H) | ((with_reducible refine wpl_drew H ?_); clear H; clear W; intro W H) | ((with_reducible refine wpl_drewN H ?_); clear H; clear W; intro W H) | ((with_reducible apply wpl_load H); (case hs => exact sc _ rfl); (case hw => rfl); (case hx => rfl); (case hm => (repeat (first | with_reducible exact List.mem_cons_self | with_reducible apply List.mem_cons_of_mem))); (case hv => rfl)) | ((with_reducible apply wpl_loadA H); (case hs => exact ag _ _ rfl); (case hw => rfl); (case hx => rfl); (case hm => (repeat (first | with_reducible exact List.mem_cons_self | with_reducible apply List.mem_cons_of_mem))); (case hv => rfl); (case hl => rfl); (try simp only [List.drop_zero, List.drop_succ_cons, List.take_succ_cons, List.take_zero, List.take_nil])) | ((with_reducible apply wpl_store H); (case hw => rfl); (case hx => rfl); (case hy => rfl); (case hm => (repeat (first | with_reducible exact Upd.here | with_reducible refine Upd.there ?_))); (case hs => first | exact sz_sc _ rfl | exact sz_ag _ _ rfl); (case h1 => rfl); (case hk => exact Nat.le_of_ble_eq_true rfl); clear H; clear W; intro W H; simp only [setL, List.set_cons_zero, List.set_cons_succ] at H) | ((go_at_call 13); (first | (with_reducible refine (fits_h H ?_ Hf.out).mono ?_); (· (repeat (first | with_reducible exact List.mem_cons_self | with_reducible apply List.mem_cons_of_mem))) | (with_reducible refine (fits_h H ?_ H2.out).mono ?_); (· (repeat (first | with_reducible exact List.mem_cons_self | with_reducible apply List.mem_cons_of_mem))) | (with_reducible refine (fits_h H ?_ Ha1.out).mono ?_); (· (repeat (first | with_reducible exact List.mem_cons_self | with_reducible apply List.mem_cons_of_mem))) | (with_reducible refine (fits_h H ?_ Hm.out).mono ?_); (· (repeat (first | with_reducible exact List.mem_cons_self | with_reducible apply List.mem_cons_of_mem)))); clear H; clear W; rintro e W ⟨rfl, H⟩) | ((go_at_call 9); (refine (lives_h H (by (repeat (first | with_reducible exact List.mem_cons_self | with_reducible apply List.mem_cons_of_mem)))).mono ?_); clear H; clear W; rintro e W ⟨rfl, H⟩))
        go_ret
        exact ⟨by first | rfl | trivial, H.tail.tail.tail.tail⟩
    · go_enter Tryd.func5, Tryd.ntmps5
      cases h12 : (k == 12)
      all_goals
        cases h13 : (k == 13)
      all_goals
        rw [h12] at k12
        rw [h13] at k13
        simp only [h12, h13] at Hm
        clear h12 h13
        go_wp2_with (first | ((with_reducible refine wpl_absorb H ?_); clear H; (try generalize W.heap.size = b); clear W; intro W H) | ((with_reducible refine wpl_drew H ?_); clear H; clear W; intro W H) | ((with_reducible refine wpl_drewN H ?_); clear H; clear W; intro W H) | ((with_reducible apply wpl_load H); (case hs => exact sc _ rfl); (case hw => rfl); (case hx => rfl); (case hm => (repeat (first | with_reducible exact List.mem_cons_self | with_reducible apply List.mem_cons_of_mem))); (case hv => rfl)) | ((with_reducible apply wpl_loadA H); (case hs => exact ag _ _ rfl); (case hw => rfl); (case hx => rfl); (case hm => (repeat (first | with_reducible exact List.mem_cons_self | with_reducible apply List.mem_cons_of_mem))); (case hv => rfl); (case hl => rfl); (try simp only [List.drop_zero, List.drop_succ_cons, List.take_succ_cons, List.take_zero, List.take_nil])) | ((with_reducible apply wpl_store H); (case hw => rfl); (case hx => rfl); (case hy => rfl); (case hm => (repeat (first | with_reducible exact Upd.here | with_reducible refine Upd.there ?_))); (case hs => first | exact sz_sc _ rfl | exact sz_ag _ _ rfl); (case h1 => rfl); (case hk => exact Nat.le_of_ble_eq_true rfl); clear H; clear W; intro W H; simp only [setL, List.set_cons_zero, List.set_cons_succ] at H) | ((go_at_call 13); (first | (with_reducible refine (fits_h H ?_ Hf.out).mono ?_); (· (repeat (first | with_reducible exact List.mem_cons_self | with_reducible apply List.mem_cons_of_mem))) | (with_reducible refine (fits_h H ?_ H3.out).mono ?_); (· (repeat (first | with_reducible exact List.mem_cons_self | with_reducible apply List.mem_cons_of_mem))) | (with_reducible refine (fits_h H ?_ Ha1.out).mono ?_); (· (repeat (first | with_reducible exact List.mem_cons_self | with_reducible apply List.mem_cons_of_mem))) | (with_reducible refine (fits_h H ?_ Hm.out).mono ?_); (· (repeat (first | with_reducible exact List.mem_cons_self | with_reducible apply List.mem_cons_of_mem)))); clear H; clear W; rintro e W ⟨rfl, H⟩) | ((go_at_call 9); (refine (lives_h H (by (repeat (first | with_reducible exact List.mem_cons_self | with_reducible apply List.mem_cons_of_mem)))).mono ?_); clear H; clear W; rintro e W ⟨rfl, H⟩))
        go_ret
        exact ⟨by first | rfl | trivial, H.tail.tail.tail.tail⟩
end Go.Proofs.YtnpcpmiomimphaaDoor
