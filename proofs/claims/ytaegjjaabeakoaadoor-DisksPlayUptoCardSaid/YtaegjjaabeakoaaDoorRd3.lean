/-
  The reference's disk: Sync, Write.
-/
import Derived.Test.YtaegjjaabeakoaaDoorRd2
set_option linter.unusedVariables false
set_option linter.unusedSimpArgs false
namespace Go.Proofs.YtaegjjaabeakoaaDoor
open Go.RowKit

section
variable {W : World} {L L' L0 : List Ent} {R : Ending → World → Prop} {g : Nat} {v : Rv} {d : Dd}
theorem ROk.spend (ho : ROk d) : ROk d.spend := by
  have hb := spentL_le (bl := d.bl) ho.l1 ho.l2
  exact ⟨ho.n0, ho.n1, ho.nn, ho.sl, ho.wl, hb.1, hb.2⟩
set_option maxRecDepth 100000 in
set_option maxHeartbeats 1000000 in
theorem rsync_k (H : Holds W L) (hm : Pull (rdE g v d) L L0) (k : ∀ v' w', Holds w' (rdE g v' d.sync.1 :: L0) → R (.returned (.int .i64 d.sync.2)) w') : Calls Tryd.prog 13 #[.pointer (some ⟨g, 0, none⟩)] W R := by
  have H2 := rd_open (H.pull hm); clear H; obtain ⟨ho, H⟩ := H2
  clear hm
  have HK := Lib.hid k; clear k
  unfold Dd.sync at HK
  have h2 := ho.l2
  have Hsp := Lib.hid ho.spend
  clear ho
  cases hs : spentB d.lf d.bl
  all_goals
    have Hs := Lib.hid hs
    rw [hs] at HK
    simp only [Bool.false_eq_true, if_false, if_true] at HK
    clear hs
    go_enter Tryd.func13, Tryd.ntmps13
    go_wp2_with (first | go_big_skip | ((with_reducible refine wpl_absorb H ?_); clear H; (first | ((fail_if_success (have _t := q1)); generalize W.heap.size = q1) | ((fail_if_success (have _t := q2)); generalize W.heap.size = q2) | generalize W.heap.size = q0); (try clear W); intro W H) | ((with_reducible refine wpl_drew H ?_); clear H; (try clear W); intro W H) | ((with_reducible refine wpl_drewN H ?_); clear H; (try clear W); intro W H) | ((with_reducible apply wpl_load H); (case hs => exact sc _ rfl); (case hw => rfl); (case hx => rfl); (case hm => (repeat (first | with_reducible exact mH | with_reducible assumption | with_reducible apply mT))); (case hv => rfl)) | ((with_reducible apply wpl_loadA H); (case hs => exact ag _ _ rfl); (case hw => rfl); (case hx => rfl); (case hm => (repeat (first | with_reducible exact mH | with_reducible assumption | with_reducible apply mT))); (case hv => rfl); (case hl => rfl); (try simp only [List.drop_zero, List.drop_succ_cons, List.take_succ_cons, List.take_zero, List.take_nil])) | ((with_reducible apply wpl_storeO H); (case hs => exact sz_sc _ rfl); (case hw => rfl); (case hx => rfl); (case hy => (first | exact (rfl : _ = Value.int _ _) | exact (rfl : _ = Value.bool _) | exact (rfl : _ = Value.slice _ _ _) | exact (rfl : _ = Value.pointer _) | exact (rfl : _ = Value.string _) | rfl)); (case h1 => rfl); (case hm => (repeat (first | with_reducible exact Upd.here | with_reducible assumption | with_reducible apply Upd.there))); (case hj => first | assumption | omega); clear H; (try clear W); intro W H) | ((with_reducible apply wpl_store1 H); (case hs => exact sz_sc _ rfl); (case hw => rfl); (case hx => rfl); (case hy => (first | exact (rfl : _ = Value.int _ _) | exact (rfl : _ = Value.bool _) | exact (rfl : _ = Value.slice _ _ _) | exact (rfl : _ = Value.pointer _) | exact (rfl : _ = Value.string _) | rfl)); (case hm => (repeat (first | with_reducible exact Upd.here | with_reducible assumption | with_reducible apply Upd.there))); (case h1 => rfl); (case hk => exact Nat.le_of_ble_eq_true rfl); clear H; (try clear W); intro W H; simp only [setL, List.set_cons_zero, List.set_cons_succ] at H) | ((with_reducible apply wpl_store H); (case hw => rfl); (case hx => rfl); (case hy => rfl); (case hm => (repeat (first | with_reducible exact Upd.here | with_reducible assumption | with_reducible apply Upd.there))); (case hs => exact sz_ag _ _ rfl); (case h1 => rfl); (case hk => exact Nat.le_of_ble_eq_true rfl); clear H; (try clear W); intro W H; first | rw [setL_whole rfl] at H | simp only [setL, List.set_cons_zero, List.set_cons_succ] at H) | ((with_reducible apply rmay_k); (case h2 => assumption); (case H => exact H); (case hm => exact Pull.here); clear H; (try clear W); intro W H; replace H := rd_shut (g := g) v d.spend H Hsp.out; rw [Hs.out]) | ((with_reducible apply rsync0_k H); (case hm => exact Pull.here); clear H; (try clear W); intro v2 W H))
    exact HK.out _ _ H
set_option maxRecDepth 100000 in
set_option maxHeartbeats 1000000 in
theorem rwrite_no {A : Option Addr} {m c : Nat} (N : Int) (hn : N < 0 ∨ (d.su.length : Int) ≤ N ∨ 64 < m) (hc : c ≤ 9223372036854775807) (hmc : m ≤ c) (H : Holds W L) (hm : Pull (rdE g v d) L L0) (k : ∀ w', Holds w' (rdE g v d :: L0) → R (.returned (.int .i64 1)) w') :
    Calls Tryd.prog 23 #[.pointer (some ⟨g, 0, none⟩), .int .i64 N, .slice A m c] W R := by
  have H2 := rd_open (H.pull hm); clear H; obtain ⟨ho, H⟩ := H2
  clear hm
  have HK := Lib.hid k; clear k
  have Ho := Lib.hid ho
  clear ho
  by_cases c1 : N < 0
  · clear hn
    go_enter Tryd.func23, Tryd.ntmps23
    go_wp2_with (first | go_big_skip | ((with_reducible refine wpl_absorb H ?_); clear H; (first | ((fail_if_success (have _t := q1)); generalize W.heap.size = q1) | ((fail_if_success (have _t := q2)); generalize W.heap.size = q2) | generalize W.heap.size = q0); (try clear W); intro W H) | ((with_reducible refine wpl_drew H ?_); clear H; (try clear W); intro W H) | ((with_reducible refine wpl_drewN H ?_); clear H; (try clear W); intro W H) | ((with_reducible apply wpl_load H); (case hs => exact sc _ rfl); (case hw => rfl); (case hx => rfl); (case hm => (repeat (first | with_reducible exact mH | with_reducible assumption | with_reducible apply mT))); (case hv => rfl)) | ((with_reducible apply wpl_loadA H); (case hs => exact ag _ _ rfl); (case hw => rfl); (case hx => rfl); (case hm => (repeat (first | with_reducible exact mH | with_reducible assumption | with_reducible apply mT))); (case hv => rfl); (case hl => rfl); (try simp only [List.drop_zero, List.drop_succ_cons, List.take_succ_cons, List.take_zero, List.take_nil])) | ((with_reducible apply wpl_storeO H); (case hs => exact sz_sc _ rfl); (case hw => rfl); (case hx => rfl); (case hy => (first | exact (rfl : _ = Value.int _ _) | exact (rfl : _ = Value.bool _) | exact (rfl : _ = Value.slice _ _ _) | exact (rfl : _ = Value.pointer _) | exact (rfl : _ = Value.string _) | rfl)); (case h1 => rfl); (case hm => (repeat (first | with_reducible exact Upd.here | with_reducible assumption | with_reducible apply Upd.there))); (case hj => first | assumption | omega); clear H; (try clear W); intro W H) | ((with_reducible apply wpl_store1 H); (case hs => exact sz_sc _ rfl); (case hw => rfl); (case hx => rfl); (case hy => (first | exact (rfl : _ = Value.int _ _) | exact (rfl : _ = Value.bool _) | exact (rfl : _ = Value.slice _ _ _) | exact (rfl : _ = Value.pointer _) | exact (rfl : _ = Value.string _) | rfl)); (case hm => (repeat (first | with_reducible exact Upd.here | with_reducible assumption | with_reducible apply Upd.there))); (case h1 => rfl); (case hk => exact Nat.le_of_ble_eq_true rfl); clear H; (try clear W); intro W H; simp only [setL, List.set_cons_zero, List.set_cons_succ] at H) | ((with_reducible apply wpl_store H); (case hw => rfl); (case hx => rfl); (case hy => rfl); (case hm => (repeat (first | with_reducible exact Upd.here | with_reducible assumption | with_reducible apply Upd.there))); (case hs => exact sz_ag _ _ rfl); (case h1 => rfl); (case hk => exact Nat.le_of_ble_eq_true rfl); clear H; (try clear W); intro W H; first | rw [setL_whole rfl] at H | simp only [setL, List.set_cons_zero, List.set_cons_succ] at H))
    exact HK.out _ (rd_shut _ _ H Ho.out)
  · have d1 : decide (N < 0) = false := by simp; omega
    by_cases c2 : (d.su.length : Int) ≤ N
    · clear hn
      go_enter Tryd.func23, Tryd.ntmps23
      go_wp2_with (first | go_big_skip | ((with_reducible refine wpl_absorb H ?_); clear H; (first | ((fail_if_success (have _t := q1)); generalize W.heap.size = q1) | ((fail_if_success (have _t := q2)); generalize W.heap.size = q2) | generalize W.heap.size = q0); (try clear W); intro W H) | ((with_reducible refine wpl_drew H ?_); clear H; (try clear W); intro W H) | ((with_reducible refine wpl_drewN H ?_); clear H; (try clear W); intro W H) | ((with_reducible apply wpl_load H); (case hs => exact sc _ rfl); (case hw => rfl); (case hx => rfl); (case hm => (repeat (first | with_reducible exact mH | with_reducible assumption | with_reducible apply mT))); (case hv => rfl)) | ((with_reducible apply wpl_loadA H); (case hs => exact ag _ _ rfl); (case hw => rfl); (case hx => rfl); (case hm => (repeat (first | with_reducible exact mH | with_reducible assumption | with_reducible apply mT))); (case hv => rfl); (case hl => rfl); (try simp only [List.drop_zero, List.drop_succ_cons, List.take_succ_cons, List.take_zero, List.take_nil])) | ((with_reducible apply wpl_storeO H); (case hs => exact sz_sc _ rfl); (case hw => rfl); (case hx => rfl); (case hy => (first | exact (rfl : _ = Value.int _ _) | exact (rfl : _ = Value.bool _) | exact (rfl : _ = Value.slice _ _ _) | exact (rfl : _ = Value.pointer _) | exact (rfl : _ = Value.string _) | rfl)); (case h1 => rfl); (case hm => (repeat (first | with_reducible exact Upd.here | with_reducible assumption | with_reducible apply Upd.there))); (case hj => first | assumption | omega); clear H; (try clear W); intro W H) | ((with_reducible apply wpl_store1 H); (case hs => exact sz_sc _ rfl); (case hw => rfl); (case hx => rfl); (case hy => (first | exact (rfl : _ = Value.int _ _) | exact (rfl : _ = Value.bool _) | exact (rfl : _ = Value.slice _ _ _) | exact (rfl : _ = Value.pointer _) | exact (rfl : _ = Value.string _) | rfl)); (case hm => (repeat (first | with_reducible exact Upd.here | with_reducible assumption | with_reducible apply Upd.there))); (case h1 => rfl); (case hk => exact Nat.le_of_ble_eq_true rfl); clear H; (try clear W); intro W H; simp only [setL, List.set_cons_zero, List.set_cons_succ] at H) | ((with_reducible apply wpl_store H); (case hw => rfl); (case hx => rfl); (case hy => rfl); (case hm => (repeat (first | with_reducible exact Upd.here | with_reducible assumption | with_reducible apply Upd.there))); (case hs => exact sz_ag _ _ rfl); (case h1 => rfl); (case hk => exact Nat.le_of_ble_eq_true rfl); clear H; (try clear W); intro W H; first | rw [setL_whole rfl] at H | simp only [setL, List.set_cons_zero, List.set_cons_succ] at H))
      exact HK.out _ (rd_shut _ _ H Ho.out)
    · have c3 : (64 : Int) < m := by omega
      have d2 : decide ((d.su.length : Int) ≤ N) = false := by simp; omega
      clear hn
      go_enter Tryd.func23, Tryd.ntmps23
      go_wp2_with (first | go_big_skip | ((with_reducible refine wpl_absorb H ?_); clear H; (first | ((fail_if_success (have _t := q1)); generalize W.heap.size = q1) | ((fail_if_success (have _t := q2)); generalize W.heap.size = q2) | generalize W.heap.size = q0); (try clear W); intro W H) | ((with_reducible refine wpl_drew H ?_); clear H; (try clear W); intro W H) | ((with_reducible refine wpl_drewN H ?_); clear H; (try clear W); intro W H) | ((with_reducible apply wpl_load H); (case hs => exact sc _ rfl); (case hw => rfl); (case hx => rfl); (case hm => (repeat (first | with_reducible exact mH | with_reducible assumption | with_reducible apply mT))); (case hv => rfl)) | ((with_reducible apply wpl_loadA H); (case hs => exact ag _ _ rfl); (case hw => rfl); (case hx => rfl); (case hm => (repeat (first | with_reducible exact mH | with_reducible assumption | with_reducible apply mT))); (case hv => rfl); (case hl => rfl); (try simp only [List.drop_zero, List.drop_succ_cons, List.take_succ_cons, List.take_zero, List.take_nil])) | ((with_reducible apply wpl_storeO H); (case hs => exact sz_sc _ rfl); (case hw => rfl); (case hx => rfl); (case hy => (first | exact (rfl : _ = Value.int _ _) | exact (rfl : _ = Value.bool _) | exact (rfl : _ = Value.slice _ _ _) | exact (rfl : _ = Value.pointer _) | exact (rfl : _ = Value.string _) | rfl)); (case h1 => rfl); (case hm => (repeat (first | with_reducible exact Upd.here | with_reducible assumption | with_reducible apply Upd.there))); (case hj => first | assumption | omega); clear H; (try clear W); intro W H) | ((with_reducible apply wpl_store1 H); (case hs => exact sz_sc _ rfl); (case hw => rfl); (case hx => rfl); (case hy => (first | exact (rfl : _ = Value.int _ _) | exact (rfl : _ = Value.bool _) | exact (rfl : _ = Value.slice _ _ _) | exact (rfl : _ = Value.pointer _) | exact (rfl : _ = Value.string _) | rfl)); (case hm => (repeat (first | with_reducible exact Upd.here | with_reducible assumption | with_reducible apply Upd.there))); (case h1 => rfl); (case hk => exact Nat.le_of_ble_eq_true rfl); clear H; (try clear W); intro W H; simp only [setL, List.set_cons_zero, List.set_cons_succ] at H) | ((with_reducible apply wpl_store H); (case hw => rfl); (case hx => rfl); (case hy => rfl); (case hm => (repeat (first | with_reducible exact Upd.here | with_reducible assumption | with_reducible apply Upd.there))); (case hs => exact sz_ag _ _ rfl); (case h1 => rfl); (case hk => exact Nat.le_of_ble_eq_true rfl); clear H; (try clear W); intro W H; first | rw [setL_whole rfl] at H | simp only [setL, List.set_cons_zero, List.set_cons_succ] at H))
      exact HK.out _ (rd_shut _ _ H Ho.out)
set_option maxRecDepth 100000 in
set_option maxHeartbeats 1000000 in
theorem rwrite_spent {A : Option Addr} {m c : Nat} (N : Nat) (hn : N < d.su.length) (hm64 : m ≤ 64) (hs : spentB d.lf d.bl = true) (hc : c ≤ 9223372036854775807) (hmc : m ≤ c) (H : Holds W L) (hm : Pull (rdE g v d) L L0) (k : ∀ w', Holds w' (rdE g v d.spend :: L0) → R (.returned (.int .i64 9)) w') :
    Calls Tryd.prog 23 #[.pointer (some ⟨g, 0, none⟩), .int .i64 N, .slice A m c] W R := by
  have H2 := rd_open (H.pull hm); clear H; obtain ⟨ho, H⟩ := H2
  clear hm
  have HK := Lib.hid k; clear k
  have h2 := ho.l2
  have Hsp := Lib.hid ho.spend
  have Hs := Lib.hid hs
  have d1 : decide ((N : Int) < 0) = false := by simp
  have d2 : decide ((d.su.length : Int) ≤ N) = false := by simp; omega
  have d3 : decide ((64 : Int) < m) = false := by simp; omega
  clear ho hs
  go_enter Tryd.func23, Tryd.ntmps23
  go_wp2_with (first | go_big_skip | ((with_reducible refine wpl_absorb H ?_); clear H; (first | ((fail_if_success (have _t := q1)); generalize W.heap.size = q1) | ((fail_if_success (have _t := q2)); generalize W.heap.size = q2) | generalize W.heap.size = q0); (try clear W); intro W H) | ((with_reducible refine wpl_drew H ?_); clear H; (try clear W); intro W H) | ((with_reducible refine wpl_drewN H ?_); clear H; (try clear W); intro W H) | ((with_reducible apply wpl_load H); (case hs => exact sc _ rfl); (case hw => rfl); (case hx => rfl); (case hm => (repeat (first | with_reducible exact mH | with_reducible assumption | with_reducible apply mT))); (case hv => rfl)) | ((with_reducible apply wpl_loadA H); (case hs => exact ag _ _ rfl); (case hw => rfl); (case hx => rfl); (case hm => (repeat (first | with_reducible exact mH | with_reducible assumption | with_reducible apply mT))); (case hv => rfl); (case hl => rfl); (try simp only [List.drop_zero, List.drop_succ_cons, List.take_succ_cons, List.take_zero, List.take_nil])) | ((with_reducible apply wpl_storeO H); (case hs => exact sz_sc _ rfl); (case hw => rfl); (case hx => rfl); (case hy => (first | exact (rfl : _ = Value.int _ _) | exact (rfl : _ = Value.bool _) | exact (rfl : _ = Value.slice _ _ _) | exact (rfl : _ = Value.pointer _) | exact (rfl : _ = Value.string _) | rfl)); (case h1 => rfl); (case hm => (repeat (first | with_reducible exact Upd.here | with_reducible assumption | with_reducible apply Upd.there))); (case hj => first | assumption | omega); clear H; (try clear W); intro W H) | ((with_reducible apply wpl_store1 H); (case hs => exact sz_sc _ rfl); (case hw => rfl); (case hx => rfl); (case hy => (first | exact (rfl : _ = Value.int _ _) | exact (rfl : _ = Value.bool _) | exact (rfl : _ = Value.slice _ _ _) | exact (rfl : _ = Value.pointer _) | exact (rfl : _ = Value.string _) | rfl)); (case hm => (repeat (first | with_reducible exact Upd.here | with_reducible assumption | with_reducible apply Upd.there))); (case h1 => rfl); (case hk => exact Nat.le_of_ble_eq_true rfl); clear H; (try clear W); intro W H; simp only [setL, List.set_cons_zero, List.set_cons_succ] at H) | ((with_reducible apply wpl_store H); (case hw => rfl); (case hx => rfl); (case hy => rfl); (case hm => (repeat (first | with_reducible exact Upd.here | with_reducible assumption | with_reducible apply Upd.there))); (case hs => exact sz_ag _ _ rfl); (case h1 => rfl); (case hk => exact Nat.le_of_ble_eq_true rfl); clear H; (try clear W); intro W H; first | rw [setL_whole rfl] at H | simp only [setL, List.set_cons_zero, List.set_cons_succ] at H) | ((with_reducible apply rmay_k); (case h2 => assumption); (case H => exact H); (case hm => exact Pull.here); clear H; (try clear W); intro W H; replace H := rd_shut (g := g) v d.spend H Hsp.out; rw [Hs.out]))
  exact HK.out _ H
theorem pad_row {b : List UInt8} {m : Nat} (hb : b.length = m) (hm : m ≤ 64) : setL (List.replicate 64 (Value.int .u8 0)) 0 (List.take (Nat.min m 64 * 1) (bvs b)) = bvs (padS b) := by
  have e : Nat.min m 64 = m := Nat.min_eq_left hm
  rw [e, Nat.mul_one, List.take_of_length_le (by rw [bvs_length]; omega), setL_eq _ _ _ (by rw [bvs_length]; simp; omega)]
  rw [List.take_zero, List.nil_append, bvs_length, List.drop_replicate]
  unfold padS
  rw [bvs_append, hb, show bvs (List.replicate (64 - m) 0) = List.replicate (64 - m) (Value.int .u8 0) from by unfold bvs; rw [List.map_replicate]; rfl, Nat.zero_add]
theorem inf_wt : (Tryd.prog.info? 72).map (fun i => (i.zero, i.size, i.bytes)) = some (some (.agg #[.int .i64 0, .slice none 0 0]), 2, 32) := by kernel_rfl
set_option maxRecDepth 100000 in
set_option maxHeartbeats 2000000 in
theorem rwrite_yes {A : Option Addr} {m c : Nat} {b : List UInt8} (N : Nat) (hn : N < d.su.length) (hm64 : m ≤ 64) (hs : spentB d.lf d.bl = false) (hlen : d.wa.length ≤ 1000000) (H : Holds W L) (hm : Pull (rdE g v d) L L0) (hr : Gives L0 fun w => Rd w 1 A m c (bvs b))
    (k : ∀ v' w', Holds w' (rdE g v' ⟨d.su, d.no.set N (padS b), d.wa ++ [(N, padS b)], spentL d.lf d.bl, false⟩ :: L0) → R (.returned (.int .i64 0)) w') :
    Calls Tryd.prog 23 #[.pointer (some ⟨g, 0, none⟩), .int .i64 N, .slice A m c] W R := by
  have hR := hr W (H.pull hm).tail
  have hbl := hR.blen
  have hc := hR.top
  have hmc := hR.le
  unfold maxLen at hc
  clear hR
  have H2 := rd_open (H.pull hm); clear H; obtain ⟨ho, H⟩ := H2
  clear hm
  have HK := Lib.hid k; clear k
  obtain ⟨gs, cs, q, aw, cw, qw⟩ := v
  obtain ⟨su, no, wa, lf, bl⟩ := d
  have h1 := ho.l1
  have h2 := ho.l2
  simp only at h1 h2 hn hlen hs H
  have Hp := Lib.hid (pad_row hbl hm64)
  have Hl64 := Lib.hid (padS_len (b := b) (by omega))
  have Hs := Lib.hid hs
  have Ho := Lib.hid ho
  have hqw := rws_len (q := qw) (ls := wa.map (·.2)) H (by (repeat (first | with_reducible exact mH | with_reducible assumption | with_reducible apply mT)))
  rw [List.length_map] at hqw
  have Hqw := Lib.hid hqw
  have Hsn := Lib.hid hn
  have d1 : decide ((N : Int) < 0) = false := by simp
  have d2 : decide ((su.length : Int) ≤ N) = false := by simp; omega
  have d3 : decide ((64 : Int) < m) = false := by simp; omega
  have h3 : (N : Int) < su.length := by omega
  generalize hwm : wa.length = mw at *
  have Hwm := Lib.hid hwm
  clear ho hs hbl hqw hwm
  go_enter Tryd.func23, Tryd.ntmps23
  go_wp2_with (first | go_big_skip | ((with_reducible refine wpl_absorb H ?_); clear H; (first | ((fail_if_success (have _t := q1)); generalize W.heap.size = q1) | ((fail_if_success (have _t := q2)); generalize W.heap.size = q2) | generalize W.heap.size = q0); (try clear W); intro W H) | ((with_reducible refine wpl_drew H ?_); clear H; (try clear W); intro W H) | ((with_reducible refine wpl_drewN H ?_); clear H; (try clear W); intro W H) | ((with_reducible apply wpl_load H); (case hs => exact sc _ rfl); (case hw => rfl); (case hx => rfl); (case hm => (repeat (first | with_reducible exact mH | with_reducible assumption | with_reducible apply mT))); (case hv => rfl)) | ((with_reducible apply wpl_loadA H); (case hs => exact ag _ _ rfl); (case hw => rfl); (case hx => rfl); (case hm => (repeat (first | with_reducible exact mH | with_reducible assumption | with_reducible apply mT))); (case hv => rfl); (case hl => rfl); (try simp only [List.drop_zero, List.drop_succ_cons, List.take_succ_cons, List.take_zero, List.take_nil])) | ((with_reducible apply wpl_storeO H); (case hs => exact sz_sc _ rfl); (case hw => rfl); (case hx => rfl); (case hy => (first | exact (rfl : _ = Value.int _ _) | exact (rfl : _ = Value.bool _) | exact (rfl : _ = Value.slice _ _ _) | exact (rfl : _ = Value.pointer _) | exact (rfl : _ = Value.string _) | rfl)); (case h1 => rfl); (case hm => (repeat (first | with_reducible exact Upd.here | with_reducible assumption | with_reducible apply Upd.there))); (case hj => first | assumption | omega); clear H; (try clear W); intro W H) | ((with_reducible apply wpl_store1 H); (case hs => exact sz_sc _ rfl); (case hw => rfl); (case hx => rfl); (case hy => (first | exact (rfl : _ = Value.int _ _) | exact (rfl : _ = Value.bool _) | exact (rfl : _ = Value.slice _ _ _) | exact (rfl : _ = Value.pointer _) | exact (rfl : _ = Value.string _) | rfl)); (case hm => (repeat (first | with_reducible exact Upd.here | with_reducible assumption | with_reducible apply Upd.there))); (case h1 => rfl); (case hk => exact Nat.le_of_ble_eq_true rfl); clear H; (try clear W); intro W H; simp only [setL, List.set_cons_zero, List.set_cons_succ] at H) | ((with_reducible apply wpl_store H); (case hw => rfl); (case hx => rfl); (case hy => rfl); (case hm => (repeat (first | with_reducible exact Upd.here | with_reducible assumption | with_reducible apply Upd.there))); (case hs => exact sz_ag _ _ rfl); (case h1 => rfl); (case hk => exact Nat.le_of_ble_eq_true rfl); clear H; (try clear W); intro W H; first | rw [setL_whole rfl] at H | simp only [setL, List.set_cons_zero, List.set_cons_succ] at H) | ((with_reducible apply rmay_k); (case h2 => assumption); (case H => exact H); (case hm => exact Pull.here); clear H; (try clear W); intro W H; rw [Hs.out] at H ⊢) | ((with_reducible apply wpl_make1 H 64 64); (case ht => exact Tryd.underlying42); (case hinfo => exact inf_5); (case hw => rfl); (case hl => rfl); (case hc => rfl); (case hN => rfl); (case hC => rfl); (case hz1 => rfl); (case hnc => omega); (case hb => omega); (case h63 => omega); (case hmx => (simp only [maxLen]; omega)); clear H; (try clear W); intro q1 W H) | ((with_reducible apply wpl_copyO H); (case hw => rfl); (case hx => rfl); (case hy => rfl); (case hu => exact Tryd.underlying42); (case hs => kernel_rfl); (case hr => (first | assumption | (apply gives_own; (case h => (repeat (first | with_reducible exact mH | with_reducible assumption | with_reducible apply mT))); (case hn => rfl)) | (apply gives_blk; (case h => (repeat (first | with_reducible exact mH | with_reducible assumption | with_reducible apply mT))); (case hn => rfl); (case hl => omega)) | (repeat (first | assumption | with_reducible apply Gives.cons)))); (case h1 => exact bvs_oneCell _); (case hm => (repeat (first | with_reducible exact Upd.here | with_reducible assumption | with_reducible apply Upd.there))); clear H; (try clear W); intro W H; rw [Hp.out] at H) | ((with_reducible apply wpl_slice1 (vs := [.int .i64 (N : Int), .slice (some ⟨q1, 0, none⟩) 64 64]) H); (case hw => rfl); (case hx => rfl); (case ht => exact Tryd.underlying63); (case hinfo => exact inf_wt); (case hzs => rfl); (case hl => rfl); (case h0 => decide); (case h24 => exact Nat.le_of_ble_eq_true rfl); clear H; (try clear W); intro q2 W H) | ((with_reducible apply wpl_app H); (case hw => rfl); (case ht => exact Tryd.underlying63); (case hinfo => exact inf_wt); (case hs => rfl); (case hx => rfl); (case hm => (repeat (first | with_reducible exact Pull.here | with_reducible apply Pull.there))); (case hzs => rfl); (case hsz => decide); (case hr => exact gives_blk1 (by (repeat (first | with_reducible exact mH | with_reducible assumption | with_reducible apply mT))) rfl); (case h1 => (intro u hu; rcases List.mem_cons.1 hu with rfl | hu; (rfl); (obtain rfl := List.mem_singleton.1 hu; rfl))); (case h63 => (simp only [maxLen]; omega)); (case hbytes => omega); clear H; (try clear W); intro A1 n1 c1 W hn1 H hle1 htop1; obtain rfl := hn1.out; clear hn1))
  rw [rwE_64 Hl64.out] at H
  have H2 : Holds W (rwE (some ⟨q1, 0, none⟩, 64) (padS b) :: rwsE qw (wa.map (·.2)) :: blk g [.slice (some ⟨gs, 0, none⟩) su.length cs, .slice A1 (mw + 1) c1, .int .i64 (clf (spentL lf bl)), .bool false] 65 :: ownE 42 1 (.slice (some ⟨gs, 0, none⟩) su.length cs) su.length (List.zipWith rh q su) :: rwsE q su :: ownE 72 2 (.slice A1 (mw + 1) c1) (mw + 1) (wtc qw wa ++ [.int .i64 (N : Int), .slice (some ⟨q1, 0, none⟩) 64 64]) :: L0) := Reord.use H (by ((repeat (with_reducible apply Reord.cons; (case p => (repeat (first | with_reducible exact Pull.here | with_reducible apply Pull.there))))); repeat (first | with_reducible exact Reord.rest | with_reducible apply Reord.drop)))
  have H3 := rws_add H2
  have e1 : wa.map (·.2) ++ [padS b] = (wa ++ [(N, padS b)]).map (·.2) := by rw [List.map_append]; rfl
  have e2 : wtc qw wa ++ [.int .i64 (N : Int), .slice (some ⟨q1, 0, none⟩) 64 64] = wtc (qw ++ [(some ⟨q1, 0, none⟩, 64)]) (wa ++ [(N, padS b)]) := by
    rw [wtc_snoc (by rw [Hwm.out]; exact Hqw.out)]
    unfold rh
    rw [Hl64.out]
  rw [e1, e2] at H3
  have ho := Ho.out
  have hb := spentL_le (bl := bl) h1 h2
  refine HK.out ⟨gs, cs, q, A1, c1, qw ++ [(some ⟨q1, 0, none⟩, 64)]⟩ _ (rd_shut _ _ ?_ ⟨ho.n0, ho.n1, ?_, ho.sl, ?_, hb.1, hb.2⟩)
  · simp only [List.length_append, List.length_cons, List.length_nil, Nat.zero_add, Hwm.out]
    exact Reord.use H3 (by ((repeat (with_reducible apply Reord.cons; (case p => (repeat (first | with_reducible exact Pull.here | with_reducible apply Pull.there))))); repeat (first | with_reducible exact Reord.rest | with_reducible apply Reord.drop)))
  · have := ho.nn
    simp only at this ⊢
    rw [lay_snoc, this]
  · intro x hx
    rcases List.mem_append.1 hx with h | h
    · exact ho.wl x h
    · obtain rfl := List.mem_singleton.1 h
      exact ⟨hn, Hl64.out⟩
end
end Go.Proofs.YtaegjjaabeakoaaDoor
