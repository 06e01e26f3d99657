/-
  EventsFits: the walk.
  EventsFits: the walk, as the statement's frame wants it.
  events: bytes and what they say, both ways. Plain Lean.
  events: the contracts of Put and Get, and of lives and SameBytes, as the walks of the laws want them.
-/
import Derived.Test.YtnpcpmiomimphaaDoorEvM1
import Derived.Test.YtnpcpmiomimphaaDoorSz
import Derived.Test.YtnpcpmiomimphaaDoorEqStr
set_option linter.unusedVariables false
set_option linter.unusedSimpArgs false
namespace Go.Proofs.YtnpcpmiomimphaaDoor
open Go.RowKit

/-- the table lies there. -/
def laidE : Ent :=
  ⟨false, (· = 0), Laid,
   fun w w' hk h k hk16 => by
    have hb := World.block_lt_of_cell? w _ (h k hk16)
    exact (World.cell?_of_block (w := w) (hk.block _ rfl hb)).trans (h k hk16),
   fun w h b hb => by
    have := World.block_lt_of_cell? w _ (h 0 (by decide))
    obtain rfl : b = 0 := hb
    exact this⟩
theorem holds_laid {w : World} (h : Laid w) : Holds w [laidE, base w] := (holds_base w).add h (by intro x hx; simp only [List.mem_singleton] at hx; subst hx; exact .inl ⟨rfl, rfl⟩)
theorem fits_h {k : Nat} {i p a0 a1 a2 b0 b1 b2 n m : Int} {f : Bool} {w : World} {L : List Ent} (H : Holds w L) (hl : laidE ∈ L) (hxf : (Ask.mk k i p a0 a1 a2 b0 b1 b2 n m).Wf ∧ (Ask.mk k i p a0 a1 a2 b0 b1 b2 n m).fits = f) :
    Calls Tryd.prog 13 #[.agg #[.int .u8 k, .int .u32 i, .int .u32 p, .int .u64 a0, .int .u64 a1, .int .u64 a2, .int .u64 b0, .int .u64 b1, .int .u64 b2, .int .u64 n, .int .u64 m]] w fun e w' => e = .returned (.bool f) ∧ Holds w' L := by
  obtain ⟨hx, rfl⟩ := hxf; exact (fits_any (Ask.mk k i p a0 a1 a2 b0 b1 b2 n m) hx w (H.all _ hl)).mono fun _ _ h => ⟨h.1, H.ext h.2⟩
theorem lives_h {w : World} {L : List Ent} (H : Holds w L) (hl : laidE ∈ L) :
    Calls Tryd.prog 9 #[] w fun e w' => e = .returned (.bool true) ∧ Holds w' L :=
  (lives_any w (H.all _ hl)).mono fun _ _ h => ⟨h.1, H.ext h.2⟩

set_option maxRecDepth 100000 in
set_option maxHeartbeats 1000000 in
theorem fitsLaw (k : Nat) (i p a0 a1 a2 b0 b1 b2 n m wh : Int) (h0 : 0 ≤ wh) (h1 : wh ≤ 255) (hx : (Ask.mk k i p a0 a1 a2 b0 b1 b2 n m).Wf) {W : World} {L : List Ent} (H : Holds W (laidE :: L)) :
    Calls Tryd.prog 5 #[.agg #[.int .u8 k, .int .u32 i, .int .u32 p, .int .u64 a0, .int .u64 a1, .int .u64 a2, .int .u64 b0, .int .u64 b1, .int .u64 b2, .int .u64 n, .int .u64 m], .int .u8 wh] W fun e w' => e = .returned (.bool true) ∧ Holds w' (laidE :: L) := by
  cases hf : (Ask.mk k i p a0 a1 a2 b0 b1 b2 n m).fits with
  | false =>
    have Hf := Lib.hid (And.intro hx hf)
    clear hf hx
    go_enter Tryd.func5, Tryd.ntmps5
    go_wp2_with (first | go_big_skip | ((with_reducible refine wpl_absorb H ?_); clear H; (first  | generalize W.heap.size = q0); (try clear W); intro W H) | ((with_reducible refine wpl_drew H ?_); clear H; (try clear W); intro W H) | ((with_reducible refine wpl_drewN H ?_); clear H; (try clear W); intro W H) | ((with_reducible apply wpl_load H); (case hs => exact sc _ rfl); (case hw => rfl); (case hx => rfl); (case hm => (repeat (first | with_reducible exact mH | with_reducible assumption | with_reducible apply mT))); (case hv => rfl)) | ((with_reducible apply wpl_loadA H); (case hs => exact ag _ _ rfl); (case hw => rfl); (case hx => rfl); (case hm => (repeat (first | with_reducible exact mH | with_reducible assumption | with_reducible apply mT))); (case hv => rfl); (case hl => rfl); (try simp only [List.drop_zero, List.drop_succ_cons, List.take_succ_cons, List.take_zero, List.take_nil])) | ((with_reducible apply wpl_loadB H); (case hs => exact sc _ rfl); (case hw => rfl); (case hx => rfl); (case hm => (first | assumption | (apply gives_own; (case h => (repeat (first | with_reducible exact mH | with_reducible assumption | with_reducible apply mT))); (case hn => rfl)) | (apply gives_blk; (case h => (repeat (first | with_reducible exact mH | with_reducible assumption | with_reducible apply mT))); (case hn => rfl); (case hl => omega)) | (repeat (first | assumption | with_reducible apply Gives.cons)))); (case hj => first | assumption | omega)) | ((with_reducible apply wpl_loadB0 H); (case hs => exact sc _ rfl); (case hw => rfl); (case hx => rfl); (case hm => (first | assumption | (apply gives_own; (case h => (repeat (first | with_reducible exact mH | with_reducible assumption | with_reducible apply mT))); (case hn => rfl)) | (apply gives_blk; (case h => (repeat (first | with_reducible exact mH | with_reducible assumption | with_reducible apply mT))); (case hn => rfl); (case hl => omega)) | (repeat (first | assumption | with_reducible apply Gives.cons)))); (case hj => first | assumption | omega)) | ((with_reducible apply wpl_storeO H); (case hs => exact sz_sc _ rfl); (case hw => rfl); (case hx => rfl); (case hy => (first | exact (rfl : _ = Value.int _ _) | exact (rfl : _ = Value.bool _) | exact (rfl : _ = Value.slice _ _ _) | exact (rfl : _ = Value.pointer _) | exact (rfl : _ = Value.string _) | rfl)); (case h1 => rfl); (case hm => (repeat (first | with_reducible exact Upd.here | with_reducible assumption | with_reducible apply Upd.there))); (case hj => first | assumption | omega); clear H; (try clear W); intro W H) | ((with_reducible apply wpl_app H); (case ht => (first | exact Tryd.underlying32 | exact Tryd.underlying45 | exact Tryd.underlying46 | exact Tryd.underlying47 | exact Tryd.underlying48 | exact Tryd.underlying49 | exact Tryd.underlying50 | exact Tryd.underlying51 | exact Tryd.underlying52 | exact Tryd.underlying53 | exact Tryd.underlying75 | exact Tryd.underlying77 | exact Tryd.underlying84 | exact Tryd.underlying88 | exact Tryd.underlying94 | exact Tryd.underlying100 | exact Tryd.underlying106 | exact Tryd.underlying112)); (case hinfo => (first | exact inf_3 | exact inf_5 | exact inf_9 | exact inf_31 | exact inf_32 | exact inf_74 | exact inf_79 | exact inf_82 | exact inf_86 | exact inf_90 | exact inf_92 | exact inf_96 | exact inf_98 | exact inf_102 | exact inf_104 | exact inf_108 | exact inf_110 | exact inf_114)); (case hw => rfl); (case hs => rfl); (case hx => rfl); (case hm => (repeat (first | with_reducible exact Pull.here | with_reducible apply Pull.there))); (case hzs => rfl); (case hsz => decide); (case hr => (first | assumption | (apply gives_own; (case h => (repeat (first | with_reducible exact mH | with_reducible assumption | with_reducible apply mT))); (case hn => rfl)) | (apply gives_blk; (case h => (repeat (first | with_reducible exact mH | with_reducible assumption | with_reducible apply mT))); (case hn => rfl); (case hl => omega)) | (repeat (first | assumption | with_reducible apply Gives.cons)))); (case h1 => first | exact bvs_oneCell _ | (intro u hu; obtain rfl := List.mem_singleton.1 hu; rfl)); (case h63 => (simp only [maxLen]; omega)); (case hbytes => omega); clear H; (try clear W); intro A1 n1 c1 W hn H hle1 htop1; obtain rfl := hn.out; clear hn) | ((with_reducible apply wpl_store1 H); (case hs => exact sz_sc _ rfl); (case hw => rfl); (case hx => rfl); (case hy => (first | exact (rfl : _ = Value.int _ _) | exact (rfl : _ = Value.bool _) | exact (rfl : _ = Value.slice _ _ _) | exact (rfl : _ = Value.pointer _) | exact (rfl : _ = Value.string _) | rfl)); (case hm => (repeat (first | with_reducible exact Upd.here | with_reducible assumption | with_reducible apply Upd.there))); (case h1 => rfl); (case hk => exact Nat.le_of_ble_eq_true rfl); clear H; (try clear W); intro W H; simp only [setL, List.set_cons_zero, List.set_cons_succ] at H) | ((with_reducible apply wpl_store H); (case hw => rfl); (case hx => rfl); (case hy => rfl); (case hm => (repeat (first | with_reducible exact Upd.here | with_reducible assumption | with_reducible apply Upd.there))); (case hs => exact sz_ag _ _ rfl); (case h1 => rfl); (case hk => exact Nat.le_of_ble_eq_true rfl); clear H; (try clear W); intro W H; first | rw [setL_whole rfl] at H | simp only [setL, List.set_cons_zero, List.set_cons_succ] at H) | ((go_at_call 13); (first | (with_reducible refine (fits_h H ?_ Hf.out).mono ?_); (· (repeat (first | with_reducible exact mH | with_reducible assumption | with_reducible apply mT)))); clear H; clear W; rintro e W ⟨rfl, H⟩) | ((go_at_call 9); (refine (lives_h H (by (repeat (first | with_reducible exact mH | with_reducible assumption | with_reducible apply mT)))).mono ?_); clear H; clear W; rintro e W ⟨rfl, H⟩))
    go_ret
    exact ⟨by first | rfl | trivial, H.tail⟩
  | true =>
    have Hf := Lib.hid (And.intro hx hf)
    have H0 := Lib.hid (And.intro (Ask.Wf.mk (x := Ask.mk k 0 p a0 a1 a2 b0 b1 b2 n m) hx.k (by simp) hx.p hx.a0 hx.a1 hx.a2 hx.b0 hx.b1 hx.b2 hx.n hx.m) (fits_i _ hx hf))
    have H3 := Lib.hid (And.intro (Ask.Wf.mk (x := Ask.mk k i 0 a0 a1 a2 b0 b1 b2 n m) hx.k hx.i (by simp) hx.a0 hx.a1 hx.a2 hx.b0 hx.b1 hx.b2 hx.n hx.m) (fits_p _ hx hf))
    have H2 := Lib.hid (And.intro (Ask.Wf.mk (x := Ask.mk k i p a0 a1 a2 b0 b1 b2 0 m) hx.k hx.i hx.p hx.a0 hx.a1 hx.a2 hx.b0 hx.b1 hx.b2 (by simp) hx.m) (fits_n _ hx hf))
    have H1 := Lib.hid (And.intro (Ask.Wf.mk (x := Ask.mk k i p 0 0 0 b0 b1 b2 n m) hx.k hx.i hx.p (by simp) (by simp) (by simp) hx.b0 hx.b1 hx.b2 hx.n hx.m) (fits_a _ hx hf))
    have Hm := Lib.hid (And.intro (Ask.Wf.mk (x := Ask.mk k i p a0 a1 a2 b0 b1 b2 n 1) hx.k hx.i hx.p hx.a0 hx.a1 hx.a2 hx.b0 hx.b1 hx.b2 hx.n (by simp)) (fits_m1 _ hx hf))
    have Ha1 := Lib.hid (And.intro (Ask.Wf.mk (x := Ask.mk k i p a0 1099511627777 a2 b0 b1 b2 n m) hx.k hx.i hx.p hx.a0 (by simp) hx.a2 hx.b0 hx.b1 hx.b2 hx.n hx.m) (fits_a1 (Ask.mk k i p a0 a1 a2 b0 b1 b2 n m)))
    have hm : wh % 4 = 0 ∨ wh % 4 = 1 ∨ wh % 4 = 2 ∨ wh % 4 = 3 := by omega
    have k12 : ((k : Int) == 12) = (k == 12) := by rw [Bool.eq_iff_iff]; simp; omega
    have k13 : ((k : Int) == 13) = (k == 13) := by rw [Bool.eq_iff_iff]; simp; omega
    clear hf hx
    rcases hm with w0 | w0 | w0 | w0
    · go_enter Tryd.func5, Tryd.ntmps5
      cases h12 : (k == 12)
      all_goals
        cases h13 : (k == 13)
      all_goals
        rw [h12] at k12
        rw [h13] at k13
        simp only [h12, h13] at Hm
        clear h12 h13
        go_wp2_with (first | go_big_skip | ((with_reducible refine wpl_absorb H ?_); clear H; (first  | generalize W.heap.size = q0); (try clear W); intro W H) | ((with_reducible refine wpl_drew H ?_); clear H; (try clear W); intro W H) | ((with_reducible refine wpl_drewN H ?_); clear H; (try clear W); intro W H) | ((with_reducible apply wpl_load H); (case hs => exact sc _ rfl); (case hw => rfl); (case hx => rfl); (case hm => (repeat (first | with_reducible exact mH | with_reducible assumption | with_reducible apply mT))); (case hv => rfl)) | ((with_reducible apply wpl_loadA H); (case hs => exact ag _ _ rfl); (case hw => rfl); (case hx => rfl); (case hm => (repeat (first | with_reducible exact mH | with_reducible assumption | with_reducible apply mT))); (case hv => rfl); (case hl => rfl); (try simp only [List.drop_zero, List.drop_succ_cons, List.take_succ_cons, List.take_zero, List.take_nil])) | ((with_reducible apply wpl_loadB H); (case hs => exact sc _ rfl); (case hw => rfl); (case hx => rfl); (case hm => (first | assumption | (apply gives_own; (case h => (repeat (first | with_reducible exact mH | with_reducible assumption | with_reducible apply mT))); (case hn => rfl)) | (apply gives_blk; (case h => (repeat (first | with_reducible exact mH | with_reducible assumption | with_reducible apply mT))); (case hn => rfl); (case hl => omega)) | (repeat (first | assumption | with_reducible apply Gives.cons)))); (case hj => first | assumption | omega)) | ((with_reducible apply wpl_loadB0 H); (case hs => exact sc _ rfl); (case hw => rfl); (case hx => rfl); (case hm => (first | assumption | (apply gives_own; (case h => (repeat (first | with_reducible exact mH | with_reducible assumption | with_reducible apply mT))); (case hn => rfl)) | (apply gives_blk; (case h => (repeat (first | with_reducible exact mH | with_reducible assumption | with_reducible apply mT))); (case hn => rfl); (case hl => omega)) | (repeat (first | assumption | with_reducible apply Gives.cons)))); (case hj => first | assumption | omega)) | ((with_reducible apply wpl_storeO H); (case hs => exact sz_sc _ rfl); (case hw => rfl); (case hx => rfl); (case hy => (first | exact (rfl : _ = Value.int _ _) | exact (rfl : _ = Value.bool _) | exact (rfl : _ = Value.slice _ _ _) | exact (rfl : _ = Value.pointer _) | exact (rfl : _ = Value.string _) | rfl)); (case h1 => rfl); (case hm => (repeat (first | with_reducible exact Upd.here | with_reducible assumption | with_reducible apply Upd.there))); (case hj => first | assumption | omega); clear H; (try clear W); intro W H) | ((with_reducible apply wpl_app H); (case ht => (first | exact Tryd.underlying32 | exact Tryd.underlying45 | exact Tryd.underlying46 | exact Tryd.underlying47 | exact Tryd.underlying48 | exact Tryd.underlying49 | exact Tryd.underlying50 | exact Tryd.underlying51 | exact Tryd.underlying52 | exact Tryd.underlying53 | exact Tryd.underlying75 | exact Tryd.underlying77 | exact Tryd.underlying84 | exact Tryd.underlying88 | exact Tryd.underlying94 | exact Tryd.underlying100 | exact Tryd.underlying106 | exact Tryd.underlying112)); (case hinfo => (first | exact inf_3 | exact inf_5 | exact inf_9 | exact inf_31 | exact inf_32 | exact inf_74 | exact inf_79 | exact inf_82 | exact inf_86 | exact inf_90 | exact inf_92 | exact inf_96 | exact inf_98 | exact inf_102 | exact inf_104 | exact inf_108 | exact inf_110 | exact inf_114)); (case hw => rfl); (case hs => rfl); (case hx => rfl); (case hm => (repeat (first | with_reducible exact Pull.here | with_reducible apply Pull.there))); (case hzs => rfl); (case hsz => decide); (case hr => (first | assumption | (apply gives_own; (case h => (repeat (first | with_reducible exact mH | with_reducible assumption | with_reducible apply mT))); (case hn => rfl)) | (apply gives_blk; (case h => (repeat (first | with_reducible exact mH | with_reducible assumption | with_reducible apply mT))); (case hn => rfl); (case hl => omega)) | (repeat (first | assumption | with_reducible apply Gives.cons)))); (case h1 => first | exact bvs_oneCell _ | (intro u hu; obtain rfl := List.mem_singleton.1 hu; rfl)); (case h63 => (simp only [maxLen]; omega)); (case hbytes => omega); clear H; (try clear W); intro A1 n1 c1 W hn H hle1 htop1; obtain rfl := hn.out; clear hn) | ((with_reducible apply wpl_store1 H); (case hs => exact sz_sc _ rfl); (case hw => rfl); (case hx => rfl); (case hy => (first | exact (rfl : _ = Value.int _ _) | exact (rfl : _ = Value.bool _) | exact (rfl : _ = Value.slice _ _ _) | exact (rfl : _ = Value.pointer _) | exact (rfl : _ = Value.string _) | rfl)); (case hm => (repeat (first | with_reducible exact Upd.here | with_reducible assumption | with_reducible apply Upd.there))); (case h1 => rfl); (case hk => exact Nat.le_of_ble_eq_true rfl); clear H; (try clear W); intro W H; simp only [setL, List.set_cons_zero, List.set_cons_succ] at H) | ((with_reducible apply wpl_store H); (case hw => rfl); (case hx => rfl); (case hy => rfl); (case hm => (repeat (first | with_reducible exact Upd.here | with_reducible assumption | with_reducible apply Upd.there))); (case hs => exact sz_ag _ _ rfl); (case h1 => rfl); (case hk => exact Nat.le_of_ble_eq_true rfl); clear H; (try clear W); intro W H; first | rw [setL_whole rfl] at H | simp only [setL, List.set_cons_zero, List.set_cons_succ] at H) | ((go_at_call 13); (first | (with_reducible refine (fits_h H ?_ Hf.out).mono ?_); (· (repeat (first | with_reducible exact mH | with_reducible assumption | with_reducible apply mT))) | (with_reducible refine (fits_h H ?_ H0.out).mono ?_); (· (repeat (first | with_reducible exact mH | with_reducible assumption | with_reducible apply mT))) | (with_reducible refine (fits_h H ?_ Ha1.out).mono ?_); (· (repeat (first | with_reducible exact mH | with_reducible assumption | with_reducible apply mT))) | (with_reducible refine (fits_h H ?_ Hm.out).mono ?_); (· (repeat (first | with_reducible exact mH | with_reducible assumption | with_reducible apply mT)))); clear H; clear W; rintro e W ⟨rfl, H⟩) | ((go_at_call 9); (refine (lives_h H (by (repeat (first | with_reducible exact mH | with_reducible assumption | with_reducible apply mT)))).mono ?_); clear H; clear W; rintro e W ⟨rfl, H⟩))
        go_ret
        exact ⟨by first | rfl | trivial, H.tail.tail.tail.tail⟩
    · go_enter Tryd.func5, Tryd.ntmps5
      cases h12 : (k == 12)
      all_goals
        cases h13 : (k == 13)
      all_goals
        rw [h12] at k12
        rw [h13] at k13
        simp only [h12, h13] at Hm
        clear h12 h13
        go_wp2_with (first | go_big_skip | ((with_reducible refine wpl_absorb H ?_); clear H; (first  | generalize W.heap.size = q0); (try clear W); intro W H) | ((with_reducible refine wpl_drew H ?_); clear H; (try clear W); intro W H) | ((with_reducible refine wpl_drewN H ?_); clear H; (try clear W); intro W H) | ((with_reducible apply wpl_load H); (case hs => exact sc _ rfl); (case hw => rfl); (case hx => rfl); (case hm => (repeat (first | with_reducible exact mH | with_reducible assumption | with_reducible apply mT))); (case hv => rfl)) | ((with_reducible apply wpl_loadA H); (case hs => exact ag _ _ rfl); (case hw => rfl); (case hx => rfl); (case hm => (repeat (first | with_reducible exact mH | with_reducible assumption | with_reducible apply mT))); (case hv => rfl); (case hl => rfl); (try simp only [List.drop_zero, List.drop_succ_cons, List.take_succ_cons, List.take_zero, List.take_nil])) | ((with_reducible apply wpl_loadB H); (case hs => exact sc _ rfl); (case hw => rfl); (case hx => rfl); (case hm => (first | assumption | (apply gives_own; (case h => (repeat (first | with_reducible exact mH | with_reducible assumption | with_reducible apply mT))); (case hn => rfl)) | (apply gives_blk; (case h => (repeat (first | with_reducible exact mH | with_reducible assumption | with_reducible apply mT))); (case hn => rfl); (case hl => omega)) | (repeat (first | assumption | with_reducible apply Gives.cons)))); (case hj => first | assumption | omega)) | ((with_reducible apply wpl_loadB0 H); (case hs => exact sc _ rfl); (case hw => rfl); (case hx => rfl); (case hm => (first | assumption | (apply gives_own; (case h => (repeat (first | with_reducible exact mH | with_reducible assumption | with_reducible apply mT))); (case hn => rfl)) | (apply gives_blk; (case h => (repeat (first | with_reducible exact mH | with_reducible assumption | with_reducible apply mT))); (case hn => rfl); (case hl => omega)) | (repeat (first | assumption | with_reducible apply Gives.cons)))); (case hj => first | assumption | omega)) | ((with_reducible apply wpl_storeO H); (case hs => exact sz_sc _ rfl); (case hw => rfl); (case hx => rfl); (case hy => (first | exact (rfl : _ = Value.int _ _) | exact (rfl : _ = Value.bool _) | exact (rfl : _ = Value.slice _ _ _) | exact (rfl : _ = Value.pointer _) | exact (rfl : _ = Value.string _) | rfl)); (case h1 => rfl); (case hm => (repeat (first | with_reducible exact Upd.here | with_reducible assumption | with_reducible apply Upd.there))); (case hj => first | assumption | omega); clear H; (try clear W); intro W H) | ((with_reducible apply wpl_app H); (case ht => (first | exact Tryd.underlying32 | exact Tryd.underlying45 | exact Tryd.underlying46 | exact Tryd.underlying47 | exact Tryd.underlying48 | exact Tryd.underlying49 | exact Tryd.underlying50 | exact Tryd.underlying51 | exact Tryd.underlying52 | exact Tryd.underlying53 | exact Tryd.underlying75 | exact Tryd.underlying77 | exact Tryd.underlying84 | exact Tryd.underlying88 | exact Tryd.underlying94 | exact Tryd.underlying100 | exact Tryd.underlying106 | exact Tryd.underlying112)); (case hinfo => (first | exact inf_3 | exact inf_5 | exact inf_9 | exact inf_31 | exact inf_32 | exact inf_74 | exact inf_79 | exact inf_82 | exact inf_86 | exact inf_90 | exact inf_92 | exact inf_96 | exact inf_98 | exact inf_102 | exact inf_104 | exact inf_108 | exact inf_110 | exact inf_114)); (case hw => rfl); (case hs => rfl); (case hx => rfl); (case hm => (repeat (first | with_reducible exact Pull.here | with_reducible apply Pull.there))); (case hzs => rfl); (case hsz => decide); (case hr => (first | assumption | (apply gives_own; (case h => (repeat (first | with_reducible exact mH | with_reducible assumption | with_reducible apply mT))); (case hn => rfl)) | (apply gives_blk; (case h => (repeat (first | with_reducible exact mH | with_reducible assumption | with_reducible apply mT))); (case hn => rfl); (case hl => omega)) | (repeat (first | assumption | with_reducible apply Gives.cons)))); (case h1 => first | exact bvs_oneCell _ | (intro u hu; obtain rfl := List.mem_singleton.1 hu; rfl)); (case h63 => (simp only [maxLen]; omega)); (case hbytes => omega); clear H; (try clear W); intro A1 n1 c1 W hn H hle1 htop1; obtain rfl := hn.out; clear hn) | ((with_reducible apply wpl_store1 H); (case hs => exact sz_sc _ rfl); (case hw => rfl); (case hx => rfl); (case hy => (first | exact (rfl : _ = Value.int _ _) | exact (rfl : _ = Value.bool _) | exact (rfl : _ = Value.slice _ _ _) | exact (rfl : _ = Value.pointer _) | exact (rfl : _ = Value.string _) | rfl)); (case hm => (repeat (first | with_reducible exact Upd.here | with_reducible assumption | with_reducible apply Upd.there))); (case h1 => rfl); (case hk => exact Nat.le_of_ble_eq_true rfl); clear H; (try clear W); intro W H; simp only [setL, List.set_cons_zero, List.set_cons_succ] at H) | ((with_reducible apply wpl_store H); (case hw => rfl); (case hx => rfl); (case hy => rfl); (case hm => (repeat (first | with_reducible exact Upd.here | with_reducible assumption | with_reducible apply Upd.there))); (case hs => exact sz_ag _ _ rfl); (case h1 => rfl); (case hk => exact Nat.le_of_ble_eq_true rfl); clear H; (try clear W); intro W H; first | rw [setL_whole rfl] at H | simp only [setL, List.set_cons_zero, List.set_cons_succ] at H) | ((go_at_call 13); (first | (with_reducible refine (fits_h H ?_ Hf.out).mono ?_); (· (repeat (first | with_reducible exact mH | with_reducible assumption | with_reducible apply mT))) | (with_reducible refine (fits_h H ?_ H1.out).mono ?_); (· (repeat (first | with_reducible exact mH | with_reducible assumption | with_reducible apply mT))) | (with_reducible refine (fits_h H ?_ Ha1.out).mono ?_); (· (repeat (first | with_reducible exact mH | with_reducible assumption | with_reducible apply mT))) | (with_reducible refine (fits_h H ?_ Hm.out).mono ?_); (· (repeat (first | with_reducible exact mH | with_reducible assumption | with_reducible apply mT)))); clear H; clear W; rintro e W ⟨rfl, H⟩) | ((go_at_call 9); (refine (lives_h H (by (repeat (first | with_reducible exact mH | with_reducible assumption | with_reducible apply mT)))).mono ?_); clear H; clear W; rintro e W ⟨rfl, H⟩))
        go_ret
        exact ⟨by first | rfl | trivial, H.tail.tail.tail.tail⟩
    · go_enter Tryd.func5, Tryd.ntmps5
      cases h12 : (k == 12)
      all_goals
        cases h13 : (k == 13)
      all_goals
        rw [h12] at k12
        rw [h13] at k13
        simp only [h12, h13] at Hm
        clear h12 h13
        go_wp2_with (first | go_big_skip | ((with_reducible refine wpl_absorb H ?_); clear H; (first  | generalize W.heap.size = q0); (try clear W); intro W H) | ((with_reducible refine wpl_drew H ?_); clear H; (try clear W); intro W H) | ((with_reducible refine wpl_drewN H ?_); clear H; (try clear W); intro W H) | ((with_reducible apply wpl_load H); (case hs => exact sc _ rfl); (case hw => rfl); (case hx => rfl); (case hm => (repeat (first | with_reducible exact mH | with_reducible assumption | with_reducible apply mT))); (case hv => rfl)) | ((with_reducible apply wpl_loadA H); (case hs => exact ag _ _ rfl); (case hw => rfl); (case hx => rfl); (case hm => (repeat (first | with_reducible exact mH | with_reducible assumption | with_reducible apply mT))); (case hv => rfl); (case hl => rfl); (try simp only [List.drop_zero, List.drop_succ_cons, List.take_succ_cons, List.take_zero, List.take_nil])) | ((with_reducible apply wpl_loadB H); (case hs => exact sc _ rfl); (case hw => rfl); (case hx => rfl); (case hm => (first | assumption | (apply gives_own; (case h => (repeat (first | with_reducible exact mH | with_reducible assumption | with_reducible apply mT))); (case hn => rfl)) | (apply gives_blk; (case h => (repeat (first | with_reducible exact mH | with_reducible assumption | with_reducible apply mT))); (case hn => rfl); (case hl => omega)) | (repeat (first | assumption | with_reducible apply Gives.cons)))); (case hj => first | assumption | omega)) | ((with_reducible apply wpl_loadB0 H); (case hs => exact sc _ rfl); (case hw => rfl); (case hx => rfl); (case hm => (first | assumption | (apply gives_own; (case h => (repeat (first | with_reducible exact mH | with_reducible assumption | with_reducible apply mT))); (case hn => rfl)) | (apply gives_blk; (case h => (repeat (first | with_reducible exact mH | with_reducible assumption | with_reducible apply mT))); (case hn => rfl); (case hl => omega)) | (repeat (first | assumption | with_reducible apply Gives.cons)))); (case hj => first | assumption | omega)) | ((with_reducible apply wpl_storeO H); (case hs => exact sz_sc _ rfl); (case hw => rfl); (case hx => rfl); (case hy => (first | exact (rfl : _ = Value.int _ _) | exact (rfl : _ = Value.bool _) | exact (rfl : _ = Value.slice _ _ _) | exact (rfl : _ = Value.pointer _) | exact (rfl : _ = Value.string _) | rfl)); (case h1 => rfl); (case hm => (repeat (first | with_reducible exact Upd.here | with_reducible assumption | with_reducible apply Upd.there))); (case hj => first | assumption | omega); clear H; (try clear W); intro W H) | ((with_reducible apply wpl_app H); (case ht => (first | exact Tryd.underlying32 | exact Tryd.underlying45 | exact Tryd.underlying46 | exact Tryd.underlying47 | exact Tryd.underlying48 | exact Tryd.underlying49 | exact Tryd.underlying50 | exact Tryd.underlying51 | exact Tryd.underlying52 | exact Tryd.underlying53 | exact Tryd.underlying75 | exact Tryd.underlying77 | exact Tryd.underlying84 | exact Tryd.underlying88 | exact Tryd.underlying94 | exact Tryd.underlying100 | exact Tryd.underlying106 | exact Tryd.underlying112)); (case hinfo => (first | exact inf_3 | exact inf_5 | exact inf_9 | exact inf_31 | exact inf_32 | exact inf_74 | exact inf_79 | exact inf_82 | exact inf_86 | exact inf_90 | exact inf_92 | exact inf_96 | exact inf_98 | exact inf_102 | exact inf_104 | exact inf_108 | exact inf_110 | exact inf_114)); (case hw => rfl); (case hs => rfl); (case hx => rfl); (case hm => (repeat (first | with_reducible exact Pull.here | with_reducible apply Pull.there))); (case hzs => rfl); (case hsz => decide); (case hr => (first | assumption | (apply gives_own; (case h => (repeat (first | with_reducible exact mH | with_reducible assumption | with_reducible apply mT))); (case hn => rfl)) | (apply gives_blk; (case h => (repeat (first | with_reducible exact mH | with_reducible assumption | with_reducible apply mT))); (case hn => rfl); (case hl => omega)) | (repeat (first | assumption | with_reducible apply Gives.cons)))); (case h1 => first | exact bvs_oneCell _ | (intro u hu; obtain rfl := List.mem_singleton.1 hu; rfl)); (case h63 => (simp only [maxLen]; omega)); (case hbytes => omega); clear H; (try clear W); intro A1 n1 c1 W hn H hle1 htop1; obtain rfl := hn.out; clear hn) | ((with_reducible apply wpl_store1 H); (case hs => exact sz_sc _ rfl); (case hw => rfl); (case hx => rfl); (case hy => (first | exact (rfl : _ = Value.int _ _) | exact (rfl : _ = Value.bool _) | exact (rfl : _ = Value.slice _ _ _) | exact (rfl : _ = Value.pointer _) | exact (rfl : _ = Value.string _) | rfl)); (case hm => (repeat (first | with_reducible exact Upd.here | with_reducible assumption | with_reducible apply Upd.there))); (case h1 => rfl); (case hk => exact Nat.le_of_ble_eq_true rfl); clear H; (try clear W); intro W H; simp only [setL, List.set_cons_zero, List.set_cons_succ] at H) | ((with_reducible apply wpl_store H); (case hw => rfl); (case hx => rfl); (case hy => rfl); (case hm => (repeat (first | with_reducible exact Upd.here | with_reducible assumption | with_reducible apply Upd.there))); (case hs => exact sz_ag _ _ rfl); (case h1 => rfl); (case hk => exact Nat.le_of_ble_eq_true rfl); clear H; (try clear W); intro W H; first | rw [setL_whole rfl] at H | simp only [setL, List.set_cons_zero, List.set_cons_succ] at H) | ((go_at_call 13); (first | (with_reducible refine (fits_h H ?_ Hf.out).mono ?_); (· (repeat (first | with_reducible exact mH | with_reducible assumption | with_reducible apply mT))) | (with_reducible refine (fits_h H ?_ H2.out).mono ?_); (· (repeat (first | with_reducible exact mH | with_reducible assumption | with_reducible apply mT))) | (with_reducible refine (fits_h H ?_ Ha1.out).mono ?_); (· (repeat (first | with_reducible exact mH | with_reducible assumption | with_reducible apply mT))) | (with_reducible refine (fits_h H ?_ Hm.out).mono ?_); (· (repeat (first | with_reducible exact mH | with_reducible assumption | with_reducible apply mT)))); clear H; clear W; rintro e W ⟨rfl, H⟩) | ((go_at_call 9); (refine (lives_h H (by (repeat (first | with_reducible exact mH | with_reducible assumption | with_reducible apply mT)))).mono ?_); clear H; clear W; rintro e W ⟨rfl, H⟩))
        go_ret
        exact ⟨by first | rfl | trivial, H.tail.tail.tail.tail⟩
    · go_enter Tryd.func5, Tryd.ntmps5
      cases h12 : (k == 12)
      all_goals
        cases h13 : (k == 13)
      all_goals
        rw [h12] at k12
        rw [h13] at k13
        simp only [h12, h13] at Hm
        clear h12 h13
        go_wp2_with (first | go_big_skip | ((with_reducible refine wpl_absorb H ?_); clear H; (first  | generalize W.heap.size = q0); (try clear W); intro W H) | ((with_reducible refine wpl_drew H ?_); clear H; (try clear W); intro W H) | ((with_reducible refine wpl_drewN H ?_); clear H; (try clear W); intro W H) | ((with_reducible apply wpl_load H); (case hs => exact sc _ rfl); (case hw => rfl); (case hx => rfl); (case hm => (repeat (first | with_reducible exact mH | with_reducible assumption | with_reducible apply mT))); (case hv => rfl)) | ((with_reducible apply wpl_loadA H); (case hs => exact ag _ _ rfl); (case hw => rfl); (case hx => rfl); (case hm => (repeat (first | with_reducible exact mH | with_reducible assumption | with_reducible apply mT))); (case hv => rfl); (case hl => rfl); (try simp only [List.drop_zero, List.drop_succ_cons, List.take_succ_cons, List.take_zero, List.take_nil])) | ((with_reducible apply wpl_loadB H); (case hs => exact sc _ rfl); (case hw => rfl); (case hx => rfl); (case hm => (first | assumption | (apply gives_own; (case h => (repeat (first | with_reducible exact mH | with_reducible assumption | with_reducible apply mT))); (case hn => rfl)) | (apply gives_blk; (case h => (repeat (first | with_reducible exact mH | with_reducible assumption | with_reducible apply mT))); (case hn => rfl); (case hl => omega)) | (repeat (first | assumption | with_reducible apply Gives.cons)))); (case hj => first | assumption | omega)) | ((with_reducible apply wpl_loadB0 H); (case hs => exact sc _ rfl); (case hw => rfl); (case hx => rfl); (case hm => (first | assumption | (apply gives_own; (case h => (repeat (first | with_reducible exact mH | with_reducible assumption | with_reducible apply mT))); (case hn => rfl)) | (apply gives_blk; (case h => (repeat (first | with_reducible exact mH | with_reducible assumption | with_reducible apply mT))); (case hn => rfl); (case hl => omega)) | (repeat (first | assumption | with_reducible apply Gives.cons)))); (case hj => first | assumption | omega)) | ((with_reducible apply wpl_storeO H); (case hs => exact sz_sc _ rfl); (case hw => rfl); (case hx => rfl); (case hy => (first | exact (rfl : _ = Value.int _ _) | exact (rfl : _ = Value.bool _) | exact (rfl : _ = Value.slice _ _ _) | exact (rfl : _ = Value.pointer _) | exact (rfl : _ = Value.string _) | rfl)); (case h1 => rfl); (case hm => (repeat (first | with_reducible exact Upd.here | with_reducible assumption | with_reducible apply Upd.there))); (case hj => first | assumption | omega); clear H; (try clear W); intro W H) | ((with_reducible apply wpl_app H); (case ht => (first | exact Tryd.underlying32 | exact Tryd.underlying45 | exact Tryd.underlying46 | exact Tryd.underlying47 | exact Tryd.underlying48 | exact Tryd.underlying49 | exact Tryd.underlying50 | exact Tryd.underlying51 | exact Tryd.underlying52 | exact Tryd.underlying53 | exact Tryd.underlying75 | exact Tryd.underlying77 | exact Tryd.underlying84 | exact Tryd.underlying88 | exact Tryd.underlying94 | exact Tryd.underlying100 | exact Tryd.underlying106 | exact Tryd.underlying112)); (case hinfo => (first | exact inf_3 | exact inf_5 | exact inf_9 | exact inf_31 | exact inf_32 | exact inf_74 | exact inf_79 | exact inf_82 | exact inf_86 | exact inf_90 | exact inf_92 | exact inf_96 | exact inf_98 | exact inf_102 | exact inf_104 | exact inf_108 | exact inf_110 | exact inf_114)); (case hw => rfl); (case hs => rfl); (case hx => rfl); (case hm => (repeat (first | with_reducible exact Pull.here | with_reducible apply Pull.there))); (case hzs => rfl); (case hsz => decide); (case hr => (first | assumption | (apply gives_own; (case h => (repeat (first | with_reducible exact mH | with_reducible assumption | with_reducible apply mT))); (case hn => rfl)) | (apply gives_blk; (case h => (repeat (first | with_reducible exact mH | with_reducible assumption | with_reducible apply mT))); (case hn => rfl); (case hl => omega)) | (repeat (first | assumption | with_reducible apply Gives.cons)))); (case h1 => first | exact bvs_oneCell _ | (intro u hu; obtain rfl := List.mem_singleton.1 hu; rfl)); (case h63 => (simp only [maxLen]; omega)); (case hbytes => omega); clear H; (try clear W); intro A1 n1 c1 W hn H hle1 htop1; obtain rfl := hn.out; clear hn) | ((with_reducible apply wpl_store1 H); (case hs => exact sz_sc _ rfl); (case hw => rfl); (case hx => rfl); (case hy => (first | exact (rfl : _ = Value.int _ _) | exact (rfl : _ = Value.bool _) | exact (rfl : _ = Value.slice _ _ _) | exact (rfl : _ = Value.pointer _) | exact (rfl : _ = Value.string _) | rfl)); (case hm => (repeat (first | with_reducible exact Upd.here | with_reducible assumption | with_reducible apply Upd.there))); (case h1 => rfl); (case hk => exact Nat.le_of_ble_eq_true rfl); clear H; (try clear W); intro W H; simp only [setL, List.set_cons_zero, List.set_cons_succ] at H) | ((with_reducible apply wpl_store H); (case hw => rfl); (case hx => rfl); (case hy => rfl); (case hm => (repeat (first | with_reducible exact Upd.here | with_reducible assumption | with_reducible apply Upd.there))); (case hs => exact sz_ag _ _ rfl); (case h1 => rfl); (case hk => exact Nat.le_of_ble_eq_true rfl); clear H; (try clear W); intro W H; first | rw [setL_whole rfl] at H | simp only [setL, List.set_cons_zero, List.set_cons_succ] at H) | ((go_at_call 13); (first | (with_reducible refine (fits_h H ?_ Hf.out).mono ?_); (· (repeat (first | with_reducible exact mH | with_reducible assumption | with_reducible apply mT))) | (with_reducible refine (fits_h H ?_ H3.out).mono ?_); (· (repeat (first | with_reducible exact mH | with_reducible assumption | with_reducible apply mT))) | (with_reducible refine (fits_h H ?_ Ha1.out).mono ?_); (· (repeat (first | with_reducible exact mH | with_reducible assumption | with_reducible apply mT))) | (with_reducible refine (fits_h H ?_ Hm.out).mono ?_); (· (repeat (first | with_reducible exact mH | with_reducible assumption | with_reducible apply mT)))); clear H; clear W; rintro e W ⟨rfl, H⟩) | ((go_at_call 9); (refine (lives_h H (by (repeat (first | with_reducible exact mH | with_reducible assumption | with_reducible apply mT)))).mono ?_); clear H; clear W; rintro e W ⟨rfl, H⟩))
        go_ret
        exact ⟨by first | rfl | trivial, H.tail.tail.tail.tail⟩
end Go.Proofs.YtnpcpmiomimphaaDoor
namespace Go.Proofs.YtnpcpmiomimphaaDoor
open Go.RowKit

def needV : List Value := needL.map (Value.int .i64)
theorem laid_of {W : World} (h : ∀ (i : Nat) v, needV[i]? = some v → W.cell? ⟨0, i, none⟩ = some v) : Laid W := fun k hk => by
  have hk' : k < needL.length := hk
  refine h k _ ?_
  unfold needV need
  rw [List.getElem?_map, List.getElem?_eq_getElem hk', List.getD_eq_getElem?_getD, List.getElem?_eq_getElem hk']
  rfl
theorem nat_of {z : Int} (h : 0 ≤ z) : ∃ n : Nat, z = n := ⟨z.toNat, by omega⟩
theorem wf_of {k : Nat} {i p a0 a1 a2 b0 b1 b2 n m : Int} (w0 : (Lit.int .u8 k).wf = true) (w1 : (Lit.int .u32 i).wf = true) (w2 : (Lit.int .u32 p).wf = true) (w3 : (Lit.int .u64 a0).wf = true) (w4 : (Lit.int .u64 a1).wf = true) (w5 : (Lit.int .u64 a2).wf = true) (w6 : (Lit.int .u64 b0).wf = true) (w7 : (Lit.int .u64 b1).wf = true) (w8 : (Lit.int .u64 b2).wf = true) (w9 : (Lit.int .u64 n).wf = true) (w10 : (Lit.int .u64 m).wf = true) : (Ask.mk k i p a0 a1 a2 b0 b1 b2 n m).Wf := by
  have h0 := bounds_u8 w0
  have h1 := bounds_u32 w1
  have h2 := bounds_u32 w2
  have h3 := bounds_u64 w3
  have h4 := bounds_u64 w4
  have h5 := bounds_u64 w5
  have h6 := bounds_u64 w6
  have h7 := bounds_u64 w7
  have h8 := bounds_u64 w8
  have h9 := bounds_u64 w9
  have h10 := bounds_u64 w10
  constructor <;> simp only <;> omega
theorem fits_walk (W : World) (k : Int) (w0 : (Lit.int .u8 k).wf = true) (i : Int) (w1 : (Lit.int .u32 i).wf = true) (p : Int) (w2 : (Lit.int .u32 p).wf = true) (a0 : Int) (w3 : (Lit.int .u64 a0).wf = true) (a1 : Int) (w4 : (Lit.int .u64 a1).wf = true) (a2 : Int) (w5 : (Lit.int .u64 a2).wf = true)
    (b0 : Int) (w6 : (Lit.int .u64 b0).wf = true) (b1 : Int) (w7 : (Lit.int .u64 b1).wf = true) (b2 : Int) (w8 : (Lit.int .u64 b2).wf = true) (n : Int) (w9 : (Lit.int .u64 n).wf = true) (m : Int) (w10 : (Lit.int .u64 m).wf = true) (wh : Int) (w11 : (Lit.int .u8 wh).wf = true)
    (hl : ∀ (i : Nat) v, needV[i]? = some v → W.cell? ⟨0, i, none⟩ = some v) :
    Calls Tryd.prog 5 #[.agg #[.int .u8 k, .int .u32 i, .int .u32 p, .int .u64 a0, .int .u64 a1, .int .u64 a2, .int .u64 b0, .int .u64 b1, .int .u64 b2, .int .u64 n, .int .u64 m], .int .u8 wh] W fun e w' => e = .returned (.bool true) ∧ Ext W w' := by
  have h0 := bounds_u8 w0
  have h11 := bounds_u8 w11
  obtain ⟨k, rfl⟩ := nat_of (z := k) (by omega)
  exact (fitsLaw k i p a0 a1 a2 b0 b1 b2 n m wh (by omega) (by omega) (wf_of w0 w1 w2 w3 w4 w5 w6 w7 w8 w9 w10) (holds_laid (laid_of hl))).mono fun e w' h => ⟨h.1, h.2.tail.head⟩
end Go.Proofs.YtnpcpmiomimphaaDoor
namespace Go.Proofs.YtnpcpmiomimphaaDoor
open Go.RowKit

theorem numAt_mid (P S : List UInt8) (k n a : Nat) (ha : P.length = a) (hn : n < 256 ^ k) : numAt (P ++ be k n ++ S) a k = n := by
  subst ha
  unfold numAt
  rw [List.append_assoc, List.drop_left', List.take_left' (be_length k n), ofBe_be, Nat.mod_eq_of_lt hn]
  rfl
theorem evB_length (x : Ask) (e : Int) : (evB x e).length = 66 := by simp [evB, be_length]
theorem u8_of (k : Nat) (h : k ≤ 255) : (UInt8.ofNat k).toNat = k := by rw [UInt8.toNat_ofNat']; omega
theorem may_m {x : Ask} {e : Int} (hx : x.Wf) (h : x.may e = true) : x.m = 0 := by
  simp only [Ask.may, Bool.and_eq_true, decide_eq_true_eq] at h
  obtain ⟨h1, h2, h3, h4⟩ := h
  obtain ⟨hk, hs, hok⟩ := fits_parts hx h1
  have hb := hx.m
  have hm2 := min2 x.m
  rcases (show (min x.m 1).toNat = 0 ∨ (min x.m 1).toNat = 1 by omega) with h0 | h0
  · omega
  · rw [h0] at hok
    have := (less hk.2 (min2 _) (min2 _) (min2 _) (by omega) hok).2.2.2.2
    rw [hok] at this
    have h5 : x.k = 12 ∨ x.k = 13 := by simpa [Bool.or_eq_true] using this.symm
    omega
theorem evB_back {x : Ask} {e : Int} (hx : x.Wf) (h : x.may e = true) : evOf (evB x e) = x ∧ (evE (evB x e) : Int) = e := by
  have hm := may_m hx h
  have he := may_err h
  obtain ⟨k, i, p, a0, a1, a2, b0, b1, b2, n, m⟩ := x
  simp only at hm
  subst hm
  have hk := hx.k; have hi := hx.i; have hp := hx.p; have ha0 := hx.a0; have ha1 := hx.a1; have ha2 := hx.a2; have hb0 := hx.b0; have hb1 := hx.b1; have hb2 := hx.b2; have hn := hx.n
  simp only at hk hi hp ha0 ha1 ha2 hb0 hb1 hb2 hn
  have e1 : ∀ (z : Int) (a q : Nat) (P S : List UInt8), evB ⟨k, i, p, a0, a1, a2, b0, b1, b2, n, 0⟩ e = P ++ be q z.toNat ++ S → P.length = a → 0 ≤ z → z.toNat < 256 ^ q → (numAt (evB ⟨k, i, p, a0, a1, a2, b0, b1, b2, n, 0⟩ e) a q : Int) = z := by
    intro z a q P S h1 h2 h3 h4
    rw [h1, numAt_mid P S q _ a h2 h4]; omega
  have c2 := e1 i 2 4 [UInt8.ofNat k, UInt8.ofNat e.toNat] _ (by simp only [evB, List.append_assoc]; rfl) rfl hi.1 (by omega)
  have c6 := e1 p 6 4 ([UInt8.ofNat k, UInt8.ofNat e.toNat] ++ be 4 i.toNat) _ (by simp only [evB, List.append_assoc]; rfl) (by simp [be_length]) hp.1 (by omega)
  have c10 := e1 a0 10 8 ([UInt8.ofNat k, UInt8.ofNat e.toNat] ++ be 4 i.toNat ++ be 4 p.toNat) _ (by simp only [evB, List.append_assoc]; rfl) (by simp [be_length]) ha0.1 (by omega)
  have c18 := e1 a1 18 8 ([UInt8.ofNat k, UInt8.ofNat e.toNat] ++ be 4 i.toNat ++ be 4 p.toNat ++ be 8 a0.toNat) _ (by simp only [evB, List.append_assoc]; rfl) (by simp [be_length]) ha1.1 (by omega)
  have c26 := e1 a2 26 8 ([UInt8.ofNat k, UInt8.ofNat e.toNat] ++ be 4 i.toNat ++ be 4 p.toNat ++ be 8 a0.toNat ++ be 8 a1.toNat) _ (by simp only [evB, List.append_assoc]; rfl) (by simp [be_length]) ha2.1 (by omega)
  have c34 := e1 b0 34 8 ([UInt8.ofNat k, UInt8.ofNat e.toNat] ++ be 4 i.toNat ++ be 4 p.toNat ++ be 8 a0.toNat ++ be 8 a1.toNat ++ be 8 a2.toNat) _ (by simp only [evB, List.append_assoc]; rfl) (by simp [be_length]) hb0.1 (by omega)
  have c42 := e1 b1 42 8 ([UInt8.ofNat k, UInt8.ofNat e.toNat] ++ be 4 i.toNat ++ be 4 p.toNat ++ be 8 a0.toNat ++ be 8 a1.toNat ++ be 8 a2.toNat ++ be 8 b0.toNat) _ (by simp only [evB, List.append_assoc]; rfl) (by simp [be_length]) hb1.1 (by omega)
  have c50 := e1 b2 50 8 ([UInt8.ofNat k, UInt8.ofNat e.toNat] ++ be 4 i.toNat ++ be 4 p.toNat ++ be 8 a0.toNat ++ be 8 a1.toNat ++ be 8 a2.toNat ++ be 8 b0.toNat ++ be 8 b1.toNat) _ (by simp only [evB, List.append_assoc]; rfl) (by simp [be_length]) hb2.1 (by omega)
  have c58 := e1 n 58 8 ([UInt8.ofNat k, UInt8.ofNat e.toNat] ++ be 4 i.toNat ++ be 4 p.toNat ++ be 8 a0.toNat ++ be 8 a1.toNat ++ be 8 a2.toNat ++ be 8 b0.toNat ++ be 8 b1.toNat ++ be 8 b2.toNat) [] (by simp only [evB, List.append_assoc, List.append_nil]) (by simp [be_length]) hn.1 (by omega)
  refine ⟨?_, ?_⟩
  · unfold evOf
    rw [c2, c6, c10, c18, c26, c34, c42, c50, c58]
    congr 1
    exact u8_of k hk
  · unfold evE
    show ((UInt8.ofNat e.toNat).toNat : Int) = e
    rw [u8_of _ (by omega)]; omega
/-- Get of what Put made. -/
theorem getEv_put {x : Ask} {e : Int} (hx : x.Wf) (h : x.may e = true) : getEv (evB x e) = (x.cells ++ [Value.int .i64 e], 0) := by
  obtain ⟨h1, h2⟩ := evB_back hx h
  unfold getEv
  rw [evB_length, if_neg (by omega), if_neg (by omega), h1, h2, if_pos h]
theorem evB_inj {x y : Ask} {e f : Int} (hx : x.Wf) (h : x.may e = true) (hy : y.Wf) (g : y.may f = true) (hb : evB x e = evB y f) : x = y ∧ e = f := by
  obtain ⟨h1, h2⟩ := evB_back hx h
  obtain ⟨g1, g2⟩ := evB_back hy g
  exact ⟨by rw [← h1, hb, g1], by rw [← h2, hb, g2]⟩
theorem cut_be (l : List UInt8) (a k : Nat) (h : a + k ≤ l.length) : be k (numAt l a k) = (l.drop a).take k := by
  unfold numAt
  have := be_ofBe ((l.drop a).take k)
  rwa [List.length_take, List.length_drop, Nat.min_eq_left (by omega)] at this
theorem take_cut (l : List UInt8) (a k : Nat) : l.take a ++ (l.drop a).take k = l.take (a + k) := (List.take_add).symm
/-- what 66 bytes say is put as those. -/
theorem evB_evOf {l : List UInt8} (h : l.length = 66) : evB (evOf l) (evE l) = l := by
  have e2 : [UInt8.ofNat (evOf l).k, UInt8.ofNat ((evE l : Int)).toNat] = l.take 2 := by
    match l, h with
    | x :: y :: r, _ => simp [evOf, evE]
  unfold evB
  rw [e2]
  have n1 : ∀ n : Nat, ((n : Nat) : Int).toNat = n := fun n => by omega
  simp only [evOf, n1]
  rw [cut_be l 2 4 (by omega), cut_be l 6 4 (by omega), cut_be l 10 8 (by omega), cut_be l 18 8 (by omega), cut_be l 26 8 (by omega), cut_be l 34 8 (by omega), cut_be l 42 8 (by omega), cut_be l 50 8 (by omega), cut_be l 58 8 (by omega)]
  rw [take_cut, take_cut, take_cut, take_cut, take_cut, take_cut, take_cut, take_cut, take_cut]
  exact List.take_of_length_le (by omega)
/-- what Get gives may be decided. -/
theorem getEv_may {l : List UInt8} (h : (getEv l).2 = 0) : l.length = 66 ∧ (evOf l).may (evE l) = true ∧ getEv l = ((evOf l).cells ++ [Value.int .i64 (evE l)], 0) := by
  unfold getEv at h ⊢
  by_cases h1 : l.length < 66
  · rw [if_pos h1] at h; simp at h
  · rw [if_neg h1] at h
    by_cases h2 : 66 < l.length
    · rw [if_pos h2] at h; simp at h
    · rw [if_neg h2] at h
      by_cases h3 : (evOf l).may (evE l) = true
      · rw [if_neg h1, if_neg h2, if_pos h3]; exact ⟨by omega, h3, rfl⟩
      · rw [if_neg h3] at h; simp at h
theorem getEv_no {l : List UInt8} (h : (getEv l).2 ≠ 0) : (getEv l).1 = ev0.toList ∧ ((getEv l).2 = if l.length < 66 then 5 else 4) := by
  unfold getEv at h ⊢
  by_cases h1 : l.length < 66
  · rw [if_pos h1]; simp [h1]
  · rw [if_neg h1] at h ⊢
    by_cases h2 : 66 < l.length
    · rw [if_pos h2]; simp [h1]
    · rw [if_neg h2] at h ⊢
      by_cases h3 : (evOf l).may (evE l) = true
      · rw [if_pos h3] at h; simp at h
      · rw [if_neg h3]; simp [h1]
end Go.Proofs.YtnpcpmiomimphaaDoor
namespace Go.Proofs.YtnpcpmiomimphaaDoor
open Go.RowKit

theorem put_no {k : Nat} {i p a0 a1 a2 b0 b1 b2 n m e : Int} {w : World} {L : List Ent} (H : Holds w L) (hl : laidE ∈ L) (hx : (Ask.mk k i p a0 a1 a2 b0 b1 b2 n m).Wf ∧ (Ask.mk k i p a0 a1 a2 b0 b1 b2 n m).may e = false) :
    Calls Tryd.prog 8 #[.agg #[.int .u8 k, .int .u32 i, .int .u32 p, .int .u64 a0, .int .u64 a1, .int .u64 a2, .int .u64 b0, .int .u64 b1, .int .u64 b2, .int .u64 n, .int .u64 m, .int .i64 e]] w fun r w' => r = .returned (.tuple #[.slice none 0 0, .int .i64 1]) ∧ Holds w' L := by
  refine (evPut_any (Ask.mk k i p a0 a1 a2 b0 b1 b2 n m) e hx.1 w (H.all _ hl)).mono ?_
  rintro r w' (⟨-, rfl, h⟩ | ⟨h, -⟩)
  · exact ⟨rfl, H.ext h⟩
  · rw [hx.2] at h; cases h
theorem put_yes {k : Nat} {i p a0 a1 a2 b0 b1 b2 n m e : Int} {w : World} {L : List Ent} (H : Holds w L) (hl : laidE ∈ L) (hx : (Ask.mk k i p a0 a1 a2 b0 b1 b2 n m).Wf ∧ (Ask.mk k i p a0 a1 a2 b0 b1 b2 n m).may e = true) :
    Calls Tryd.prog 8 #[.agg #[.int .u8 k, .int .u32 i, .int .u32 p, .int .u64 a0, .int .u64 a1, .int .u64 a2, .int .u64 b0, .int .u64 b1, .int .u64 b2, .int .u64 n, .int .u64 m, .int .i64 e]] w fun r w' => ∃ A c, r = .returned (.tuple #[.slice A 66 c, .int .i64 0]) ∧ Holds w' (ownE 5 1 (.slice A 66 c) 66 (bvs (evB (Ask.mk k i p a0 a1 a2 b0 b1 b2 n m) e)) :: L) := by
  refine (evPut_any (Ask.mk k i p a0 a1 a2 b0 b1 b2 n m) e hx.1 w (H.all _ hl)).mono ?_
  rintro r w' (⟨h, -⟩ | ⟨-, A, c, rfl, ho, hxt⟩)
  · rw [hx.2] at h; cases h
  · exact ⟨A, c, rfl, H.new_own hxt ho⟩
theorem get_h {A : Option Addr} {n cap : Nat} {l : List UInt8} {cs : List Value} {e : Int} {w : World} {L : List Ent} (H : Holds w L) (hl : laidE ∈ L) (hr : Gives L fun w => Rd w 1 A n cap (bvs l)) (hg : getEv l = (cs, e)) :
    Calls Tryd.prog 10 #[.slice A n cap] w fun r w' => r = .returned (.tuple #[.agg cs.toArray, .int .i64 e]) ∧ Holds w' L := by
  refine (evGet_any A n cap l w (H.all _ hl) (hr w H)).mono ?_
  rw [hg]
  exact fun r w' h => ⟨h.1, H.ext h.2⟩
theorem same_h {A1 : Option Addr} {n1 c1 : Nat} {l1 : List UInt8} {A2 : Option Addr} {n2 c2 : Nat} {l2 : List UInt8} {r : Bool} {w : World} {L : List Ent} (H : Holds w L) (h1 : Gives L fun w => Rd w 1 A1 n1 c1 (bvs l1)) (h2 : Gives L fun w => Rd w 1 A2 n2 c2 (bvs l2)) (hr : decide (l1 = l2) = r) :
    Calls Tryd.prog 12 #[.slice A1 n1 c1, .slice A2 n2 c2] w fun e w' => e = .returned (.bool r) ∧ Holds w' L := by
  subst hr
  refine (same_any A1 n1 c1 l1 A2 n2 c2 l2 w (h1 w H) (h2 w H)).mono ?_
  rintro e w' ⟨rfl, d, rfl⟩
  exact ⟨rfl, H.drewN d⟩
def evTs : List TypeId := [22, 23, 23, 24, 24, 24, 24, 24, 24, 24, 24, 29]
theorem evCells_typed (x : Ask) (e : Int) : Typed Tryd.prog evTs (x.cells ++ [Value.int .i64 e]) :=
  Typed.cons (leaf_int Tryd.underlying22 _) (Typed.cons (leaf_int Tryd.underlying23 _) (Typed.cons (leaf_int Tryd.underlying23 _) (Typed.cons (leaf_int Tryd.underlying24 _) (Typed.cons (leaf_int Tryd.underlying24 _) (Typed.cons (leaf_int Tryd.underlying24 _) (Typed.cons (leaf_int Tryd.underlying24 _) (Typed.cons (leaf_int Tryd.underlying24 _) (Typed.cons (leaf_int Tryd.underlying24 _) (Typed.cons (leaf_int Tryd.underlying24 _) (Typed.cons (leaf_int Tryd.underlying24 _) (Typed.cons (leaf_int Tryd.underlying29 _) (Typed.nil _))))))))))))
theorem cells_inj {x y : Ask} {e f : Int} (h : x.cells ++ [Value.int .i64 e] = y.cells ++ [Value.int .i64 f]) : x = y ∧ e = f := by
  obtain ⟨k, i, p, a0, a1, a2, b0, b1, b2, n, m⟩ := x
  obtain ⟨k', i', p', a0', a1', a2', b0', b1', b2', n', m'⟩ := y
  simp [Ask.cells] at h
  simp
  omega
/-- '==' and '!=' of two events. -/
theorem eq_events (x y : Ask) (e f : Int) : ∃ r : Bool, (∀ w, (binOp .eql 31 (.agg (x.cells ++ [Value.int .i64 e]).toArray) (.agg (y.cells ++ [Value.int .i64 f]).toArray)).run Tryd.prog w = .ok (.bool r) w) ∧
    (∀ w, (binOp .neq 31 (.agg (x.cells ++ [Value.int .i64 e]).toArray) (.agg (y.cells ++ [Value.int .i64 f]).toArray)).run Tryd.prog w = .ok (.bool (!r)) w) ∧ (r = true ↔ x = y ∧ e = f) := by
  obtain ⟨r, h1, h2, h3⟩ := run_eq_struct (P := Tryd.prog) (t := 31) (l := evTs) (by kernel_rfl) (by kernel_rfl) (by kernel_rfl) _ _ (evCells_typed x e) (evCells_typed y f)
  exact ⟨r, h1, h2, h3.trans ⟨cells_inj, fun h => by rw [h.1, h.2]⟩⟩
end Go.Proofs.YtnpcpmiomimphaaDoor
