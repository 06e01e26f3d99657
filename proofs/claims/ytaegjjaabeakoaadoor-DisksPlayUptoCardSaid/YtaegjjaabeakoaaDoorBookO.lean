/-
  A Book that has been told of slices, and does not own them yet: what it keeps is the slices' headers; they are handed over ahead of Apart.
-/
import Derived.Test.YtaegjjaabeakoaaDoorBook8
set_option linter.unusedVariables false
set_option linter.unusedSimpArgs false
namespace Go.Proofs.YtaegjjaabeakoaaDoor
open Go.RowKit

def bkO (g : Nat) (B : Option Addr) (cb : Nat) (hs : List Hd) : Ent :=
  packE [blk g [.int .i64 (hs.length : Nat), .slice B hs.length cb, .slice none 0 0, .slice none 0 0, .slice none 0 0, .slice none 0 0, .slice none 0 0, .slice none 0 0, .slice none 0 0, .slice none 0 0] 41, ownE 80 3 (.slice B hs.length cb) hs.length (rowsOf 0 hs)] (HdOk hs)
section
variable {W : World} {L L' L0 L1 : List Ent} {R : Ending → World → Prop} {g : Nat}
theorem bkO_shut {B : Option Addr} {cb : Nat} {hs : List Hd} (ho : HdOk hs) (H : Holds W (blk g [.int .i64 (hs.length : Nat), .slice B hs.length cb, .slice none 0 0, .slice none 0 0, .slice none 0 0, .slice none 0 0, .slice none 0 0, .slice none 0 0, .slice none 0 0, .slice none 0 0] 41 :: ownE 80 3 (.slice B hs.length cb) hs.length (rowsOf 0 hs) :: L)) : Holds W (bkO g B cb hs :: L) :=
  Holds.pack (l := [blk g [.int .i64 (hs.length : Nat), .slice B hs.length cb, .slice none 0 0, .slice none 0 0, .slice none 0 0, .slice none 0 0, .slice none 0 0, .slice none 0 0, .slice none 0 0, .slice none 0 0] 41, ownE 80 3 (.slice B hs.length cb) hs.length (rowsOf 0 hs)]) H ho (by
    intro e he
    rcases List.mem_cons.1 he with rfl | he
    · rfl
    · obtain rfl := List.mem_singleton.1 he
      rfl)
theorem bkO_open {B : Option Addr} {cb : Nat} {hs : List Hd} (H : Holds W (bkO g B cb hs :: L)) : HdOk hs ∧ Holds W (blk g [.int .i64 (hs.length : Nat), .slice B hs.length cb, .slice none 0 0, .slice none 0 0, .slice none 0 0, .slice none 0 0, .slice none 0 0, .slice none 0 0, .slice none 0 0, .slice none 0 0] 41 :: ownE 80 3 (.slice B hs.length cb) hs.length (rowsOf 0 hs) :: L) := H.unpack
theorem bkO_new (H : Holds W (blk g [.int .i64 0, .slice none 0 0, .slice none 0 0, .slice none 0 0, .slice none 0 0, .slice none 0 0, .slice none 0 0, .slice none 0 0, .slice none 0 0, .slice none 0 0] 41 :: L)) : Holds W (bkO g none 0 [] :: L) := by
  refine bkO_shut ⟨Nat.zero_le _, fun h hh => by cases hh⟩ ?_
  exact (H.add_nil 80 3).perm (List.Perm.swap _ _ _)
/-- the slices are handed over. -/
theorem bkO_close {B : Option Addr} {cb : Nat} {hs : List Hd} (H : Holds W (bkO g B cb hs :: ((hs.map fun h => rowE 5 h.A h.n h.c h.xs) ++ L))) : Holds W (bkE g B cb hs :: L) := by
  obtain ⟨ho, H2⟩ := bkO_open H
  exact bk_shut ho (by rw [stF_zero]; exact H2)
set_option maxRecDepth 100000 in
set_option maxHeartbeats 2000000 in
theorem bytesO_k {B A : Option Addr} {cb n c : Nat} {hs : List Hd} (xs : List Value) (hn : n ≤ 100000) (hx : xs.length = n) (hlen : hs.length < 10000) (H : Holds W L) (hm : Pull (bkO g B cb hs) L L1)
    (k : ∀ B' cb' w', Holds w' (bkO g B' cb' (hs ++ [⟨A, n, c, xs, none, 0, 0⟩]) :: L1) → R (.returned (.tuple #[])) w') :
    Calls Tryd.prog 11 #[.pointer (some ⟨g, 0, none⟩), .slice A n c] W R := by
  obtain ⟨ho, H2⟩ := bkO_open (H.pull hm)
  clear H hm
  have H := H2
  clear H2
  have HK : Hid (∀ B' cb' w', Holds w' (blk g [.int .i64 ((hs.length : Int) + 1), .slice B' (hs.length + 1) cb', .slice none 0 0, .slice none 0 0, .slice none 0 0, .slice none 0 0, .slice none 0 0, .slice none 0 0, .slice none 0 0, .slice none 0 0] 41 :: ownE 80 3 (.slice B' (hs.length + 1) cb') (hs.length + 1) (rowsOf 0 hs ++ [.slice A n c, .slice none 0 0, .int .i64 ((hs.length : Int) + 1)]) :: L1) → R (.returned (.tuple #[])) w') := Lib.hid fun B' cb' w' h => by
    refine k B' cb' w' (bkO_shut ⟨by rw [List.length_append]; simp; omega, fun x hxm => ?_⟩ ?_)
    · rcases List.mem_append.1 hxm with hxm | hxm
      · exact ho.2 x hxm
      · obtain rfl := List.mem_singleton.1 hxm
        exact ⟨hn, hx⟩
    · rw [List.length_append, rowsOf_snoc]
      simp only [List.length_cons, List.length_nil, Nat.zero_add, hdRow]
      exact h
  clear k
  have Hlen := Lib.hid hlen
  clear hn hx hlen ho
  go_enter Tryd.func11, Tryd.ntmps11
  go_wp2_with (first | go_big_skip | ((with_reducible refine wpl_absorb H ?_); clear H; (first  | generalize W.heap.size = q0); (try clear W); intro W H) | ((with_reducible refine wpl_drew H ?_); clear H; (try clear W); intro W H) | ((with_reducible refine wpl_drewN H ?_); clear H; (try clear W); intro W H) | ((with_reducible apply wpl_load H); (case hs => exact sc _ rfl); (case hw => rfl); (case hx => rfl); (case hm => (repeat (first | with_reducible exact mH | with_reducible assumption | with_reducible apply mT))); (case hv => rfl)) | ((with_reducible apply wpl_loadA H); (case hs => exact ag _ _ rfl); (case hw => rfl); (case hx => rfl); (case hm => (repeat (first | with_reducible exact mH | with_reducible assumption | with_reducible apply mT))); (case hv => rfl); (case hl => rfl); (try simp only [List.drop_zero, List.drop_succ_cons, List.take_succ_cons, List.take_zero, List.take_nil])) | ((with_reducible apply wpl_loadB H); (case hs => exact sc _ rfl); (case hw => rfl); (case hx => rfl); (case hm => (first | assumption | (apply gives_own; (case h => (repeat (first | with_reducible exact mH | with_reducible assumption | with_reducible apply mT))); (case hn => rfl)) | (apply gives_blk; (case h => (repeat (first | with_reducible exact mH | with_reducible assumption | with_reducible apply mT))); (case hn => rfl); (case hl => omega)) | (repeat (first | assumption | with_reducible apply Gives.cons)))); (case hj => first | assumption | omega)) | ((with_reducible apply wpl_loadB0 H); (case hs => exact sc _ rfl); (case hw => rfl); (case hx => rfl); (case hm => (first | assumption | (apply gives_own; (case h => (repeat (first | with_reducible exact mH | with_reducible assumption | with_reducible apply mT))); (case hn => rfl)) | (apply gives_blk; (case h => (repeat (first | with_reducible exact mH | with_reducible assumption | with_reducible apply mT))); (case hn => rfl); (case hl => omega)) | (repeat (first | assumption | with_reducible apply Gives.cons)))); (case hj => first | assumption | omega)) | ((with_reducible apply wpl_storeO H); (case hs => exact sz_sc _ rfl); (case hw => rfl); (case hx => rfl); (case hy => (first | exact (rfl : _ = Value.int _ _) | exact (rfl : _ = Value.bool _) | exact (rfl : _ = Value.slice _ _ _) | exact (rfl : _ = Value.pointer _) | exact (rfl : _ = Value.string _) | rfl)); (case h1 => rfl); (case hm => (repeat (first | with_reducible exact Upd.here | with_reducible assumption | with_reducible apply Upd.there))); (case hj => first | assumption | omega); clear H; (try clear W); intro W H) | ((with_reducible apply wpl_app H); (case ht => (first | exact Tryd.underlying22 | exact Tryd.underlying31 | exact Tryd.underlying32 | exact Tryd.underlying33 | exact Tryd.underlying34 | exact Tryd.underlying35 | exact Tryd.underlying36 | exact Tryd.underlying37 | exact Tryd.underlying38 | exact Tryd.underlying39 | exact Tryd.underlying42 | exact Tryd.underlying43 | exact Tryd.underlying61 | exact Tryd.underlying62 | exact Tryd.underlying63 | exact Tryd.underlying66 | exact Tryd.underlying82 | exact Tryd.underlying86 | exact Tryd.underlying93 | exact Tryd.underlying99 | exact Tryd.underlying105 | exact Tryd.underlying115 | exact Tryd.underlying121)); (case hinfo => (first | exact inf_3 | exact inf_4 | exact inf_5 | exact inf_9 | exact inf_42 | exact inf_45 | exact inf_70 | exact inf_72 | exact inf_78 | exact inf_80 | exact inf_84 | exact inf_88 | exact inf_91 | exact inf_95 | exact inf_97 | exact inf_101 | exact inf_103 | exact inf_107 | exact inf_113 | exact inf_117 | exact inf_119 | exact inf_123 | exact inf_128)); (case hw => rfl); (case hs => rfl); (case hx => rfl); (case hm => (repeat (first | with_reducible exact Pull.here | with_reducible apply Pull.there))); (case hzs => rfl); (case hsz => decide); (case hr => (first | assumption | (apply gives_own; (case h => (repeat (first | with_reducible exact mH | with_reducible assumption | with_reducible apply mT))); (case hn => rfl)) | (apply gives_blk; (case h => (repeat (first | with_reducible exact mH | with_reducible assumption | with_reducible apply mT))); (case hn => rfl); (case hl => omega)) | (repeat (first | assumption | with_reducible apply Gives.cons)))); (case h1 => first | exact bvs_oneCell _ | (intro u hu; obtain rfl := List.mem_singleton.1 hu; rfl)); (case h63 => (simp only [maxLen]; omega)); (case hbytes => omega); clear H; (try clear W); intro A1 n1 c1 W hn H hle1 htop1; obtain rfl := hn.out; clear hn) | ((with_reducible apply wpl_store1 H); (case hs => exact sz_sc _ rfl); (case hw => rfl); (case hx => rfl); (case hy => (first | exact (rfl : _ = Value.int _ _) | exact (rfl : _ = Value.bool _) | exact (rfl : _ = Value.slice _ _ _) | exact (rfl : _ = Value.pointer _) | exact (rfl : _ = Value.string _) | rfl)); (case hm => (repeat (first | with_reducible exact Upd.here | with_reducible assumption | with_reducible apply Upd.there))); (case h1 => rfl); (case hk => exact Nat.le_of_ble_eq_true rfl); clear H; (try clear W); intro W H; simp only [setL, List.set_cons_zero, List.set_cons_succ] at H) | ((with_reducible apply wpl_store H); (case hw => rfl); (case hx => rfl); (case hy => rfl); (case hm => (repeat (first | with_reducible exact Upd.here | with_reducible assumption | with_reducible apply Upd.there))); (case hs => exact sz_ag _ _ rfl); (case h1 => rfl); (case hk => exact Nat.le_of_ble_eq_true rfl); clear H; (try clear W); intro W H; first | rw [setL_whole rfl] at H | simp only [setL, List.set_cons_zero, List.set_cons_succ] at H) | ((with_reducible apply keep_k); (case H => exact H); (case hnb => exact Nat.le_of_lt Hlen.out); (case hm => exact Pull.here); (case hm2 => exact Pull.here); clear H; (try clear W); intro B2 cb2 W H))
  go_end0
  exact HK.out _ _ _ H
end
end Go.Proofs.YtaegjjaabeakoaaDoor
