/-
  A Book over bytes: Bytes and Apart.
-/
import Derived.Test.YtadmpfieejddmaaDoorBook7
set_option linter.unusedVariables false
set_option linter.unusedSimpArgs false
namespace Go.Proofs.YtadmpfieejddmaaDoor
open Go.RowKit

theorem stF_zero (hs : List Hd) : stF hs 0 = hs.map fun h => rowE 5 h.A h.n h.c h.xs := by
  apply List.ext_getElem?
  intro j
  unfold stF
  rw [List.getElem?_mapIdx, List.getElem?_map]
  cases hs[j]? with
  | none => rfl
  | some x => simp
theorem rowsOf_snoc : ∀ (k : Nat) (hs : List Hd) (h : Hd), rowsOf k (hs ++ [h]) = rowsOf k hs ++ hdRow h (k + hs.length)
  | k, [], h => by simp [rowsOf]
  | k, x :: t, h => by
    rw [List.cons_append, rowsOf, rowsOf, rowsOf_snoc (k + 1) t h, List.append_assoc, List.length_cons]
    congr 3
    omega
/-- what a Book holds is fit. -/
def HdOk (hs : List Hd) : Prop := hs.length ≤ 10000 ∧ ∀ h ∈ hs, h.n ≤ 100000 ∧ h.xs.length = h.n
/-- a Book in memory: the block, its list, and all slices that it holds. -/
def bkE (g : Nat) (B : Option Addr) (cb : Nat) (hs : List Hd) : Ent :=
  packE (blk g [.int .i64 (hs.length : Nat), .slice B hs.length cb, .slice none 0 0, .slice none 0 0, .slice none 0 0, .slice none 0 0, .slice none 0 0, .slice none 0 0, .slice none 0 0, .slice none 0 0] 43 :: ownE 60 3 (.slice B hs.length cb) hs.length (rowsOf 0 hs) :: stF hs 0) (HdOk hs)
theorem bk_open {w : World} {L : List Ent} {g : Nat} {B : Option Addr} {cb : Nat} {hs : List Hd} (H : Holds w (bkE g B cb hs :: L)) :
    HdOk hs ∧ Holds w (blk g [.int .i64 (hs.length : Nat), .slice B hs.length cb, .slice none 0 0, .slice none 0 0, .slice none 0 0, .slice none 0 0, .slice none 0 0, .slice none 0 0, .slice none 0 0, .slice none 0 0] 43 :: ownE 60 3 (.slice B hs.length cb) hs.length (rowsOf 0 hs) :: (stF hs 0 ++ L)) := H.unpack
theorem bk_shut {w : World} {L : List Ent} {g : Nat} {B : Option Addr} {cb : Nat} {hs : List Hd} (ho : HdOk hs) (H : Holds w (blk g [.int .i64 (hs.length : Nat), .slice B hs.length cb, .slice none 0 0, .slice none 0 0, .slice none 0 0, .slice none 0 0, .slice none 0 0, .slice none 0 0, .slice none 0 0, .slice none 0 0] 43 :: ownE 60 3 (.slice B hs.length cb) hs.length (rowsOf 0 hs) :: (stF hs 0 ++ L))) : Holds w (bkE g B cb hs :: L) :=
  Holds.pack (l := blk g [.int .i64 (hs.length : Nat), .slice B hs.length cb, .slice none 0 0, .slice none 0 0, .slice none 0 0, .slice none 0 0, .slice none 0 0, .slice none 0 0, .slice none 0 0, .slice none 0 0] 43 :: ownE 60 3 (.slice B hs.length cb) hs.length (rowsOf 0 hs) :: stF hs 0) H ho (by
    intro e he
    rcases List.mem_cons.1 he with rfl | he
    · rfl
    · rcases List.mem_cons.1 he with rfl | he
      · rfl
      · rw [stF_zero] at he
        obtain ⟨h, -, rfl⟩ := List.mem_map.1 he
        rfl)
section
variable {W : World} {L L' L0 L1 : List Ent} {R : Ending → World → Prop} {g : Nat}
set_option maxRecDepth 100000 in
set_option maxHeartbeats 2000000 in
theorem apart_k {B : Option Addr} {cb : Nat} {hs : List Hd} (H : Holds W L) (hm : Pull (bkE g B cb hs) L L0) (k : ∀ w', Holds w' L0 → R (.returned (.bool true)) w') :
    Calls Tryd.prog 16 #[.pointer (some ⟨g, 0, none⟩)] W R := by
  have HK := Lib.hid k; clear k
  obtain ⟨ho, H2⟩ := bk_open (H.pull hm)
  clear H hm
  have H := H2
  clear H2
  have Ho1 := Lib.hid ho.1
  have Ho2 := Lib.hid ho.2
  clear ho
  go_enter Tryd.func16, Tryd.ntmps16
  go_wp2_with (first | go_big_skip | ((with_reducible refine wpl_absorb H ?_); clear H; (first  | generalize W.heap.size = q0); (try clear W); intro W H) | ((with_reducible refine wpl_drew H ?_); clear H; (try clear W); intro W H) | ((with_reducible refine wpl_drewN H ?_); clear H; (try clear W); intro W H) | ((with_reducible apply wpl_load H); (case hs => exact sc _ rfl); (case hw => rfl); (case hx => rfl); (case hm => (repeat (first | with_reducible exact mH | with_reducible assumption | with_reducible apply mT))); (case hv => rfl)) | ((with_reducible apply wpl_loadA H); (case hs => exact ag _ _ rfl); (case hw => rfl); (case hx => rfl); (case hm => (repeat (first | with_reducible exact mH | with_reducible assumption | with_reducible apply mT))); (case hv => rfl); (case hl => rfl); (try simp only [List.drop_zero, List.drop_succ_cons, List.take_succ_cons, List.take_zero, List.take_nil])) | ((with_reducible apply wpl_loadB H); (case hs => exact sc _ rfl); (case hw => rfl); (case hx => rfl); (case hm => (first | assumption | (apply gives_own; (case h => (repeat (first | with_reducible exact mH | with_reducible assumption | with_reducible apply mT))); (case hn => rfl)) | (apply gives_blk; (case h => (repeat (first | with_reducible exact mH | with_reducible assumption | with_reducible apply mT))); (case hn => rfl); (case hl => omega)) | (repeat (first | assumption | with_reducible apply Gives.cons)))); (case hj => first | assumption | omega)) | ((with_reducible apply wpl_loadB0 H); (case hs => exact sc _ rfl); (case hw => rfl); (case hx => rfl); (case hm => (first | assumption | (apply gives_own; (case h => (repeat (first | with_reducible exact mH | with_reducible assumption | with_reducible apply mT))); (case hn => rfl)) | (apply gives_blk; (case h => (repeat (first | with_reducible exact mH | with_reducible assumption | with_reducible apply mT))); (case hn => rfl); (case hl => omega)) | (repeat (first | assumption | with_reducible apply Gives.cons)))); (case hj => first | assumption | omega)) | ((with_reducible apply wpl_storeO H); (case hs => exact sz_sc _ rfl); (case hw => rfl); (case hx => rfl); (case hy => (first | exact (rfl : _ = Value.int _ _) | exact (rfl : _ = Value.bool _) | exact (rfl : _ = Value.slice _ _ _) | exact (rfl : _ = Value.pointer _) | exact (rfl : _ = Value.string _) | rfl)); (case h1 => rfl); (case hm => (repeat (first | with_reducible exact Upd.here | with_reducible assumption | with_reducible apply Upd.there))); (case hj => first | assumption | omega); clear H; (try clear W); intro W H) | ((with_reducible apply wpl_app H); (case ht => (first | exact Tryd.underlying22 | exact Tryd.underlying30 | exact Tryd.underlying33 | exact Tryd.underlying34 | exact Tryd.underlying35 | exact Tryd.underlying36 | exact Tryd.underlying37 | exact Tryd.underlying38 | exact Tryd.underlying39 | exact Tryd.underlying40 | exact Tryd.underlying41 | exact Tryd.underlying64 | exact Tryd.underlying68 | exact Tryd.underlying72 | exact Tryd.underlying77 | exact Tryd.underlying83 | exact Tryd.underlying92 | exact Tryd.underlying98)); (case hinfo => (first | exact inf_3 | exact inf_5 | exact inf_9 | exact inf_22 | exact inf_54 | exact inf_60 | exact inf_62 | exact inf_66 | exact inf_70 | exact inf_74 | exact inf_79 | exact inf_81 | exact inf_85 | exact inf_90 | exact inf_94 | exact inf_96 | exact inf_100 | exact inf_105)); (case hw => rfl); (case hs => rfl); (case hx => rfl); (case hm => (repeat (first | with_reducible exact Pull.here | with_reducible apply Pull.there))); (case hzs => rfl); (case hsz => decide); (case hr => (first | assumption | (apply gives_own; (case h => (repeat (first | with_reducible exact mH | with_reducible assumption | with_reducible apply mT))); (case hn => rfl)) | (apply gives_blk; (case h => (repeat (first | with_reducible exact mH | with_reducible assumption | with_reducible apply mT))); (case hn => rfl); (case hl => omega)) | (repeat (first | assumption | with_reducible apply Gives.cons)))); (case h1 => first | exact bvs_oneCell _ | (intro u hu; obtain rfl := List.mem_singleton.1 hu; rfl)); (case h63 => (simp only [maxLen]; omega)); (case hbytes => omega); clear H; (try clear W); intro A1 n1 c1 W hn H hle1 htop1; obtain rfl := hn.out; clear hn) | ((with_reducible apply wpl_store1 H); (case hs => exact sz_sc _ rfl); (case hw => rfl); (case hx => rfl); (case hy => (first | exact (rfl : _ = Value.int _ _) | exact (rfl : _ = Value.bool _) | exact (rfl : _ = Value.slice _ _ _) | exact (rfl : _ = Value.pointer _) | exact (rfl : _ = Value.string _) | rfl)); (case hm => (repeat (first | with_reducible exact Upd.here | with_reducible assumption | with_reducible apply Upd.there))); (case h1 => rfl); (case hk => exact Nat.le_of_ble_eq_true rfl); clear H; (try clear W); intro W H; simp only [setL, List.set_cons_zero, List.set_cons_succ] at H) | ((with_reducible apply wpl_store H); (case hw => rfl); (case hx => rfl); (case hy => rfl); (case hm => (repeat (first | with_reducible exact Upd.here | with_reducible assumption | with_reducible apply Upd.there))); (case hs => exact sz_ag _ _ rfl); (case h1 => rfl); (case hk => exact Nat.le_of_ble_eq_true rfl); clear H; (try clear W); intro W H; first | rw [setL_whole rfl] at H | simp only [setL, List.set_cons_zero, List.set_cons_succ] at H) | ((with_reducible apply fill_k); (case H => exact H); (case hnb => exact Ho1.out); (case hl => rfl); (case hh => exact Ho2.out); clear H; (try clear W); intro W H) | ((rw [← stG_none] at H); (with_reducible apply grow_k); (case H => exact H); (case hnb => exact Ho1.out); (case hl => rfl); (case hh => exact fun h hm => (Ho2.out h hm).1); clear H; (try clear W); intro hs2 W hl2 hh2 H; have Hl2 := Lib.hid hl2; have Hh2 := Lib.hid hh2; clear hl2 hh2) | ((with_reducible apply look_k); (case H => exact H); (case hnb => exact Ho1.out); (case hl => exact Hl2.out); (case hh => exact Hh2.out); clear H; (try clear W); intro W H) | ((first | (with_reducible apply no_fillInt H) | (with_reducible apply no_growInt H) | (with_reducible apply no_lookInt H) | (with_reducible apply no_fillText H) | (with_reducible apply no_growText H) | (with_reducible apply no_lookText H) | (with_reducible apply no_fillByteList H) | (with_reducible apply no_growByteList H) | (with_reducible apply no_lookByteList H) | (with_reducible apply no_fillSum H) | (with_reducible apply no_growSum H) | (with_reducible apply no_lookSum H) | (with_reducible apply no_fillPair H) | (with_reducible apply no_growPair H) | (with_reducible apply no_lookPair H) | (with_reducible apply no_fillTenant H) | (with_reducible apply no_growTenant H) | (with_reducible apply no_lookTenant H) | (with_reducible apply no_fillLease H) | (with_reducible apply no_growLease H) | (with_reducible apply no_lookLease H) | (with_reducible apply no_fillEvent H) | (with_reducible apply no_growEvent H) | (with_reducible apply no_lookEvent H)); (case hm => (repeat (first | with_reducible exact mH | with_reducible assumption | with_reducible apply mT))); (case hv => rfl); clear H; (try clear W); intro W H))
  exact HK.out _ H.tail.tail.append_right
set_option maxRecDepth 100000 in
set_option maxHeartbeats 2000000 in
theorem bytes_k {B A : Option Addr} {cb n c : Nat} {hs : List Hd} {xs : List Value} (hn : n ≤ 100000) (hx : xs.length = n) (hlen : hs.length < 10000) (H : Holds W L) (hm : Pull (bkE g B cb hs) L L1) (hm2 : Pull (rowE 5 A n c xs) L1 L0)
    (k : ∀ B' cb' w', Holds w' (bkE g B' cb' (hs ++ [⟨A, n, c, xs, none, 0, 0⟩]) :: L0) → R (.returned (.tuple #[])) w') :
    Calls Tryd.prog 8 #[.pointer (some ⟨g, 0, none⟩), .slice A n c] W R := by
  obtain ⟨ho, H2⟩ := bk_open (H.pull hm)
  clear H hm
  have H := H2
  clear H2
  have HK : Hid (∀ B' cb' w', Holds w' (blk g [.int .i64 ((hs.length : Int) + 1), .slice B' (hs.length + 1) cb', .slice none 0 0, .slice none 0 0, .slice none 0 0, .slice none 0 0, .slice none 0 0, .slice none 0 0, .slice none 0 0, .slice none 0 0] 43 :: ownE 60 3 (.slice B' (hs.length + 1) cb') (hs.length + 1) (rowsOf 0 hs ++ [.slice A n c, .slice none 0 0, .int .i64 ((hs.length : Int) + 1)]) :: (stF hs 0 ++ L1)) → R (.returned (.tuple #[])) w') := Lib.hid fun B' cb' w' h => by
    refine k B' cb' w' (bk_shut ⟨by rw [List.length_append]; simp; omega, fun x hxm => ?_⟩ ?_)
    · rcases List.mem_append.1 hxm with hxm | hxm
      · exact ho.2 x hxm
      · obtain rfl := List.mem_singleton.1 hxm
        exact ⟨hn, hx⟩
    · rw [List.length_append, rowsOf_snoc, stF_zero, List.map_append, ← stF_zero]
      simp only [List.length_cons, List.length_nil, Nat.zero_add, List.map_cons, List.map_nil, hdRow]
      have h2 := h.perm (((hm2.perm.append_left (stF hs 0)).cons _).cons _)
      rw [List.append_assoc]
      exact h2
  clear k
  have Hlen := Lib.hid hlen
  clear hn hx hlen ho
  go_enter Tryd.func8, Tryd.ntmps8
  go_wp2_with (first | go_big_skip | ((with_reducible refine wpl_absorb H ?_); clear H; (first  | generalize W.heap.size = q0); (try clear W); intro W H) | ((with_reducible refine wpl_drew H ?_); clear H; (try clear W); intro W H) | ((with_reducible refine wpl_drewN H ?_); clear H; (try clear W); intro W H) | ((with_reducible apply wpl_load H); (case hs => exact sc _ rfl); (case hw => rfl); (case hx => rfl); (case hm => (repeat (first | with_reducible exact mH | with_reducible assumption | with_reducible apply mT))); (case hv => rfl)) | ((with_reducible apply wpl_loadA H); (case hs => exact ag _ _ rfl); (case hw => rfl); (case hx => rfl); (case hm => (repeat (first | with_reducible exact mH | with_reducible assumption | with_reducible apply mT))); (case hv => rfl); (case hl => rfl); (try simp only [List.drop_zero, List.drop_succ_cons, List.take_succ_cons, List.take_zero, List.take_nil])) | ((with_reducible apply wpl_loadB H); (case hs => exact sc _ rfl); (case hw => rfl); (case hx => rfl); (case hm => (first | assumption | (apply gives_own; (case h => (repeat (first | with_reducible exact mH | with_reducible assumption | with_reducible apply mT))); (case hn => rfl)) | (apply gives_blk; (case h => (repeat (first | with_reducible exact mH | with_reducible assumption | with_reducible apply mT))); (case hn => rfl); (case hl => omega)) | (repeat (first | assumption | with_reducible apply Gives.cons)))); (case hj => first | assumption | omega)) | ((with_reducible apply wpl_loadB0 H); (case hs => exact sc _ rfl); (case hw => rfl); (case hx => rfl); (case hm => (first | assumption | (apply gives_own; (case h => (repeat (first | with_reducible exact mH | with_reducible assumption | with_reducible apply mT))); (case hn => rfl)) | (apply gives_blk; (case h => (repeat (first | with_reducible exact mH | with_reducible assumption | with_reducible apply mT))); (case hn => rfl); (case hl => omega)) | (repeat (first | assumption | with_reducible apply Gives.cons)))); (case hj => first | assumption | omega)) | ((with_reducible apply wpl_storeO H); (case hs => exact sz_sc _ rfl); (case hw => rfl); (case hx => rfl); (case hy => (first | exact (rfl : _ = Value.int _ _) | exact (rfl : _ = Value.bool _) | exact (rfl : _ = Value.slice _ _ _) | exact (rfl : _ = Value.pointer _) | exact (rfl : _ = Value.string _) | rfl)); (case h1 => rfl); (case hm => (repeat (first | with_reducible exact Upd.here | with_reducible assumption | with_reducible apply Upd.there))); (case hj => first | assumption | omega); clear H; (try clear W); intro W H) | ((with_reducible apply wpl_app H); (case ht => (first | exact Tryd.underlying22 | exact Tryd.underlying30 | exact Tryd.underlying33 | exact Tryd.underlying34 | exact Tryd.underlying35 | exact Tryd.underlying36 | exact Tryd.underlying37 | exact Tryd.underlying38 | exact Tryd.underlying39 | exact Tryd.underlying40 | exact Tryd.underlying41 | exact Tryd.underlying64 | exact Tryd.underlying68 | exact Tryd.underlying72 | exact Tryd.underlying77 | exact Tryd.underlying83 | exact Tryd.underlying92 | exact Tryd.underlying98)); (case hinfo => (first | exact inf_3 | exact inf_5 | exact inf_9 | exact inf_22 | exact inf_54 | exact inf_60 | exact inf_62 | exact inf_66 | exact inf_70 | exact inf_74 | exact inf_79 | exact inf_81 | exact inf_85 | exact inf_90 | exact inf_94 | exact inf_96 | exact inf_100 | exact inf_105)); (case hw => rfl); (case hs => rfl); (case hx => rfl); (case hm => (repeat (first | with_reducible exact Pull.here | with_reducible apply Pull.there))); (case hzs => rfl); (case hsz => decide); (case hr => (first | assumption | (apply gives_own; (case h => (repeat (first | with_reducible exact mH | with_reducible assumption | with_reducible apply mT))); (case hn => rfl)) | (apply gives_blk; (case h => (repeat (first | with_reducible exact mH | with_reducible assumption | with_reducible apply mT))); (case hn => rfl); (case hl => omega)) | (repeat (first | assumption | with_reducible apply Gives.cons)))); (case h1 => first | exact bvs_oneCell _ | (intro u hu; obtain rfl := List.mem_singleton.1 hu; rfl)); (case h63 => (simp only [maxLen]; omega)); (case hbytes => omega); clear H; (try clear W); intro A1 n1 c1 W hn H hle1 htop1; obtain rfl := hn.out; clear hn) | ((with_reducible apply wpl_store1 H); (case hs => exact sz_sc _ rfl); (case hw => rfl); (case hx => rfl); (case hy => (first | exact (rfl : _ = Value.int _ _) | exact (rfl : _ = Value.bool _) | exact (rfl : _ = Value.slice _ _ _) | exact (rfl : _ = Value.pointer _) | exact (rfl : _ = Value.string _) | rfl)); (case hm => (repeat (first | with_reducible exact Upd.here | with_reducible assumption | with_reducible apply Upd.there))); (case h1 => rfl); (case hk => exact Nat.le_of_ble_eq_true rfl); clear H; (try clear W); intro W H; simp only [setL, List.set_cons_zero, List.set_cons_succ] at H) | ((with_reducible apply wpl_store H); (case hw => rfl); (case hx => rfl); (case hy => rfl); (case hm => (repeat (first | with_reducible exact Upd.here | with_reducible assumption | with_reducible apply Upd.there))); (case hs => exact sz_ag _ _ rfl); (case h1 => rfl); (case hk => exact Nat.le_of_ble_eq_true rfl); clear H; (try clear W); intro W H; first | rw [setL_whole rfl] at H | simp only [setL, List.set_cons_zero, List.set_cons_succ] at H) | ((with_reducible apply keep_k); (case H => exact H); (case hnb => exact Nat.le_of_lt Hlen.out); (case hm => exact Pull.here); (case hm2 => exact Pull.here); clear H; (try clear W); intro B2 cb2 W H))
  go_end0
  exact HK.out _ _ _ H
/-- a Book that is new. -/
theorem bk_new (H : Holds W (blk g [.int .i64 0, .slice none 0 0, .slice none 0 0, .slice none 0 0, .slice none 0 0, .slice none 0 0, .slice none 0 0, .slice none 0 0, .slice none 0 0, .slice none 0 0] 43 :: L)) : Holds W (bkE g none 0 [] :: L) := by
  refine bk_shut ⟨Nat.zero_le _, fun h hh => by cases hh⟩ ?_
  have h2 := H.add_nil 60 3
  exact h2.perm (List.Perm.swap _ _ _)
end
end Go.Proofs.YtadmpfieejddmaaDoor
