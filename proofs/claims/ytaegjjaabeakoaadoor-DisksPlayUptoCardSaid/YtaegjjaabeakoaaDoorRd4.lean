/-
  The reference's disk: Read.
-/
import Derived.Test.YtaegjjaabeakoaaDoorRd3
set_option linter.unusedVariables false
set_option linter.unusedSimpArgs false
namespace Go.Proofs.YtaegjjaabeakoaaDoor
open Go.RowKit

section
variable {W : World} {L L' L0 : List Ent} {R : Ending → World → Prop} {g : Nat} {v : Rv} {d : Dd}
set_option maxRecDepth 100000 in
set_option maxHeartbeats 1000000 in
theorem rread_no (n : Int) (hn : n < 0 ∨ (d.su.length : Int) ≤ n) (H : Holds W L) (hm : Pull (rdE g v d) L L0) (k : ∀ w', Holds w' (rdE g v d :: L0) → R (.returned (.tuple #[.slice none 0 0, .int .i64 1])) w') :
    Calls Tryd.prog 9 #[.pointer (some ⟨g, 0, none⟩), .int .i64 n] W R := by
  have H2 := rd_open (H.pull hm); clear H; obtain ⟨ho, H⟩ := H2
  clear hm
  have HK := Lib.hid k; clear k
  have Ho := Lib.hid ho
  clear ho
  by_cases c1 : n < 0
  · clear hn
    go_enter Tryd.func9, Tryd.ntmps9
    go_wp2_with (first | go_big_skip | ((with_reducible refine wpl_absorb H ?_); clear H; (first  | generalize W.heap.size = q0); (try clear W); intro W H) | ((with_reducible refine wpl_drew H ?_); clear H; (try clear W); intro W H) | ((with_reducible refine wpl_drewN H ?_); clear H; (try clear W); intro W H) | ((with_reducible apply wpl_load H); (case hs => exact sc _ rfl); (case hw => rfl); (case hx => rfl); (case hm => (repeat (first | with_reducible exact mH | with_reducible assumption | with_reducible apply mT))); (case hv => rfl)) | ((with_reducible apply wpl_loadA H); (case hs => exact ag _ _ rfl); (case hw => rfl); (case hx => rfl); (case hm => (repeat (first | with_reducible exact mH | with_reducible assumption | with_reducible apply mT))); (case hv => rfl); (case hl => rfl); (try simp only [List.drop_zero, List.drop_succ_cons, List.take_succ_cons, List.take_zero, List.take_nil])) | ((with_reducible apply wpl_storeO H); (case hs => exact sz_sc _ rfl); (case hw => rfl); (case hx => rfl); (case hy => (first | exact (rfl : _ = Value.int _ _) | exact (rfl : _ = Value.bool _) | exact (rfl : _ = Value.slice _ _ _) | exact (rfl : _ = Value.pointer _) | exact (rfl : _ = Value.string _) | rfl)); (case h1 => rfl); (case hm => (repeat (first | with_reducible exact Upd.here | with_reducible assumption | with_reducible apply Upd.there))); (case hj => first | assumption | omega); clear H; (try clear W); intro W H) | ((with_reducible apply wpl_store1 H); (case hs => exact sz_sc _ rfl); (case hw => rfl); (case hx => rfl); (case hy => (first | exact (rfl : _ = Value.int _ _) | exact (rfl : _ = Value.bool _) | exact (rfl : _ = Value.slice _ _ _) | exact (rfl : _ = Value.pointer _) | exact (rfl : _ = Value.string _) | rfl)); (case hm => (repeat (first | with_reducible exact Upd.here | with_reducible assumption | with_reducible apply Upd.there))); (case h1 => rfl); (case hk => exact Nat.le_of_ble_eq_true rfl); clear H; (try clear W); intro W H; simp only [setL, List.set_cons_zero, List.set_cons_succ] at H) | ((with_reducible apply wpl_store H); (case hw => rfl); (case hx => rfl); (case hy => rfl); (case hm => (repeat (first | with_reducible exact Upd.here | with_reducible assumption | with_reducible apply Upd.there))); (case hs => exact sz_ag _ _ rfl); (case h1 => rfl); (case hk => exact Nat.le_of_ble_eq_true rfl); clear H; (try clear W); intro W H; first | rw [setL_whole rfl] at H | simp only [setL, List.set_cons_zero, List.set_cons_succ] at H))
    exact HK.out _ (rd_shut _ _ H Ho.out)
  · have d1 : decide (n < 0) = false := by simp; omega
    have c2 : (d.su.length : Int) ≤ n := by omega
    clear hn
    go_enter Tryd.func9, Tryd.ntmps9
    go_wp2_with (first | go_big_skip | ((with_reducible refine wpl_absorb H ?_); clear H; (first  | generalize W.heap.size = q0); (try clear W); intro W H) | ((with_reducible refine wpl_drew H ?_); clear H; (try clear W); intro W H) | ((with_reducible refine wpl_drewN H ?_); clear H; (try clear W); intro W H) | ((with_reducible apply wpl_load H); (case hs => exact sc _ rfl); (case hw => rfl); (case hx => rfl); (case hm => (repeat (first | with_reducible exact mH | with_reducible assumption | with_reducible apply mT))); (case hv => rfl)) | ((with_reducible apply wpl_loadA H); (case hs => exact ag _ _ rfl); (case hw => rfl); (case hx => rfl); (case hm => (repeat (first | with_reducible exact mH | with_reducible assumption | with_reducible apply mT))); (case hv => rfl); (case hl => rfl); (try simp only [List.drop_zero, List.drop_succ_cons, List.take_succ_cons, List.take_zero, List.take_nil])) | ((with_reducible apply wpl_storeO H); (case hs => exact sz_sc _ rfl); (case hw => rfl); (case hx => rfl); (case hy => (first | exact (rfl : _ = Value.int _ _) | exact (rfl : _ = Value.bool _) | exact (rfl : _ = Value.slice _ _ _) | exact (rfl : _ = Value.pointer _) | exact (rfl : _ = Value.string _) | rfl)); (case h1 => rfl); (case hm => (repeat (first | with_reducible exact Upd.here | with_reducible assumption | with_reducible apply Upd.there))); (case hj => first | assumption | omega); clear H; (try clear W); intro W H) | ((with_reducible apply wpl_store1 H); (case hs => exact sz_sc _ rfl); (case hw => rfl); (case hx => rfl); (case hy => (first | exact (rfl : _ = Value.int _ _) | exact (rfl : _ = Value.bool _) | exact (rfl : _ = Value.slice _ _ _) | exact (rfl : _ = Value.pointer _) | exact (rfl : _ = Value.string _) | rfl)); (case hm => (repeat (first | with_reducible exact Upd.here | with_reducible assumption | with_reducible apply Upd.there))); (case h1 => rfl); (case hk => exact Nat.le_of_ble_eq_true rfl); clear H; (try clear W); intro W H; simp only [setL, List.set_cons_zero, List.set_cons_succ] at H) | ((with_reducible apply wpl_store H); (case hw => rfl); (case hx => rfl); (case hy => rfl); (case hm => (repeat (first | with_reducible exact Upd.here | with_reducible assumption | with_reducible apply Upd.there))); (case hs => exact sz_ag _ _ rfl); (case h1 => rfl); (case hk => exact Nat.le_of_ble_eq_true rfl); clear H; (try clear W); intro W H; first | rw [setL_whole rfl] at H | simp only [setL, List.set_cons_zero, List.set_cons_succ] at H))
    exact HK.out _ (rd_shut _ _ H Ho.out)
theorem zip_at {α β γ : Type} {f : α → β → γ} {q : List α} {l : List β} {j : Nat} {x : α} {y : β} (hx : q[j]? = some x) (hy : l[j]? = some y) : (List.zipWith f q l)[j]? = some (f x y) := by
  rw [List.getElem?_zipWith, hx, hy]
set_option maxRecDepth 100000 in
set_option maxHeartbeats 1000000 in
theorem rread_k (N : Nat) (s : List UInt8) (hs : d.no[N]? = some s) (H : Holds W L) (hm : Pull (rdE g v d) L L0) (k : ∀ A c w', Holds w' (ownE 5 1 (.slice A 64 c) 64 (bvs s) :: rdE g v d :: L0) → R (.returned (.tuple #[.slice A 64 c, .int .i64 0])) w') :
    Calls Tryd.prog 9 #[.pointer (some ⟨g, 0, none⟩), .int .i64 N] W R := by
  have H2 := rd_open (H.pull hm); clear H; obtain ⟨ho, H⟩ := H2
  clear hm
  have HK := Lib.hid k; clear k
  obtain ⟨gs, cs, q, aw, cw, qw⟩ := v
  obtain ⟨su, no, wa, lf, bl⟩ := d
  have Ho := Lib.hid ho
  have hql := rws_len (q := q) (ls := su) H (by (repeat (first | with_reducible exact mH | with_reducible assumption | with_reducible apply mT)))
  have hqw := rws_len (q := qw) (ls := wa.map (·.2)) H (by (repeat (first | with_reducible exact mH | with_reducible assumption | with_reducible apply mT)))
  rw [List.length_map] at hqw
  have enn := ho.nn
  simp only at H hs enn
  have hN : N < su.length := by
    have := (List.getElem?_eq_some_iff.1 hs).1
    rw [enn, lay_len] at this
    exact this
  have hNi : (N : Int) < su.length := by omega
  have d1 : decide ((N : Int) < 0) = false := by simp
  have d2 : decide ((su.length : Int) ≤ N) = false := by simp; omega
  obtain ⟨s0, hs0⟩ : ∃ s, su[N]? = some s := ⟨_, List.getElem?_eq_getElem hN⟩
  obtain ⟨x0, hx0⟩ : ∃ x, q[N]? = some x := ⟨_, List.getElem?_eq_getElem (by omega)⟩
  have Hs0 := Lib.hid hs0
  have Hx0 := Lib.hid hx0
  have Hz0 := Lib.hid (zip_at (f := rh) hx0 hs0)
  have Hql := Lib.hid hql
  have Hqw := Lib.hid hqw
  have Hs := Lib.hid hs
  have hcw := own_le (H.all (ownE 72 2 (.slice aw wa.length cw) wa.length (wtc qw wa)) (by (repeat (first | with_reducible exact mH | with_reducible assumption | with_reducible apply mT))))
  have hm63 : wa.length ≤ 9223372036854775807 := Nat.le_trans hcw.1 hcw.2
  generalize hn : su.length = n at *
  have Hn := Lib.hid hn
  generalize hm : wa.length = m at *
  have Hm := Lib.hid hm
  clear ho hql hqw hs0 hx0 hn hm hs hcw enn
  go_enter Tryd.func9, Tryd.ntmps9
  go_wp2_with (first | go_big_skip | ((with_reducible refine wpl_absorb H ?_); clear H; (first  | generalize W.heap.size = q0); (try clear W); intro W H) | ((with_reducible refine wpl_drew H ?_); clear H; (try clear W); intro W H) | ((with_reducible refine wpl_drewN H ?_); clear H; (try clear W); intro W H) | ((with_reducible apply wpl_load H); (case hs => exact sc _ rfl); (case hw => rfl); (case hx => rfl); (case hm => (repeat (first | with_reducible exact mH | with_reducible assumption | with_reducible apply mT))); (case hv => rfl)) | ((with_reducible apply wpl_loadA H); (case hs => exact ag _ _ rfl); (case hw => rfl); (case hx => rfl); (case hm => (repeat (first | with_reducible exact mH | with_reducible assumption | with_reducible apply mT))); (case hv => rfl); (case hl => rfl); (try simp only [List.drop_zero, List.drop_succ_cons, List.take_succ_cons, List.take_zero, List.take_nil])) | ((with_reducible apply wpl_storeO H); (case hs => exact sz_sc _ rfl); (case hw => rfl); (case hx => rfl); (case hy => (first | exact (rfl : _ = Value.int _ _) | exact (rfl : _ = Value.bool _) | exact (rfl : _ = Value.slice _ _ _) | exact (rfl : _ = Value.pointer _) | exact (rfl : _ = Value.string _) | rfl)); (case h1 => rfl); (case hm => (repeat (first | with_reducible exact Upd.here | with_reducible assumption | with_reducible apply Upd.there))); (case hj => first | assumption | omega); clear H; (try clear W); intro W H) | ((with_reducible apply wpl_store1 H); (case hs => exact sz_sc _ rfl); (case hw => rfl); (case hx => rfl); (case hy => (first | exact (rfl : _ = Value.int _ _) | exact (rfl : _ = Value.bool _) | exact (rfl : _ = Value.slice _ _ _) | exact (rfl : _ = Value.pointer _) | exact (rfl : _ = Value.string _) | rfl)); (case hm => (repeat (first | with_reducible exact Upd.here | with_reducible assumption | with_reducible apply Upd.there))); (case h1 => rfl); (case hk => exact Nat.le_of_ble_eq_true rfl); clear H; (try clear W); intro W H; simp only [setL, List.set_cons_zero, List.set_cons_succ] at H) | ((with_reducible apply wpl_store H); (case hw => rfl); (case hx => rfl); (case hy => rfl); (case hm => (repeat (first | with_reducible exact Upd.here | with_reducible assumption | with_reducible apply Upd.there))); (case hs => exact sz_ag _ _ rfl); (case h1 => rfl); (case hk => exact Nat.le_of_ble_eq_true rfl); clear H; (try clear W); intro W H; first | rw [setL_whole rfl] at H | simp only [setL, List.set_cons_zero, List.set_cons_succ] at H) | ((with_reducible apply wpl_loadVs0 (j := N) (v := rh x0 s0) H); (case hs => exact sc _ rfl); (case hw => rfl); (case hx => rfl); (case hm => (first | assumption | (apply gives_own; (case h => (repeat (first | with_reducible exact mH | with_reducible assumption | with_reducible apply mT))); (case hn => rfl)) | (apply gives_blk; (case h => (repeat (first | with_reducible exact mH | with_reducible assumption | with_reducible apply mT))); (case hn => rfl); (case hl => omega)) | (repeat (first | assumption | with_reducible apply Gives.cons)))); (case hj => omega); (case hv => exact Hz0.out)))
  go_loopw [6, 7] (fun b i wr => ∃ (k : Nat) (x : Option Addr × Nat) (s : List UInt8), k ≤ m ∧ i = .int .i64 k ∧ b = rh x s ∧ (lay su (wa.take k))[N]? = some s ∧ ((q[N]? = some x ∧ su[N]? = some s) ∨ ∃ j : Nat, qw[j]? = some x ∧ (wa.map (·.2))[j]? = some s) ∧
    Holds wr (blk g [.slice (some ⟨gs, 0, none⟩) n cs, .slice aw m cw, .int .i64 (clf lf), .bool bl] 65 ::
    ownE 42 1 (.slice (some ⟨gs, 0, none⟩) n cs) n (List.zipWith rh q su) :: rwsE q su :: ownE 72 2 (.slice aw m cw) m (wtc qw wa) :: rwsE qw (wa.map (·.2)) :: L0)) (fun _ i _ => m - (intOf i).toNat)
  case atStart => exact ⟨0, x0, s0, by omega, rfl, rfl, Hs0.out, .inl ⟨Hx0.out, Hs0.out⟩, H⟩
  case round =>
    clear H W
    obtain ⟨k, x, s', hk, rfl, rfl, hl, hsrc, H⟩ := hrel
    rename World => W
    have Hl := Lib.hid hl
    have Hsrc := Lib.hid hsrc
    clear hl hsrc
    by_cases hlt : k < m
    · have hki : (k : Int) < m := by omega
      obtain ⟨aw, rfl⟩ := own_some (H.all (ownE 72 2 (.slice aw m cw) m (wtc qw wa)) (by (repeat (first | with_reducible exact mH | with_reducible assumption | with_reducible apply mT)))) (by omega)
      obtain ⟨⟨M, t⟩, hx⟩ : ∃ x, wa[k]? = some x := ⟨_, List.getElem?_eq_getElem (by rw [Hm.out]; exact hlt)⟩
      obtain ⟨y, hq⟩ : ∃ x, qw[k]? = some x := ⟨_, List.getElem?_eq_getElem (by rw [Hqw.out]; exact hlt)⟩
      obtain ⟨hnum, hrow⟩ := wtc_at k hq hx
      simp only at hnum hrow
      have hk2 : k * 2 < m * 2 := by omega
      have hk3 : k * 2 + 1 < m * 2 := by omega
      have Hnum := Lib.hid hnum
      have Hrow := Lib.hid hrow
      have Hx := Lib.hid hx
      have Hq := Lib.hid hq
      clear hnum hrow hx hq
      by_cases hMN : M = N
      · subst hMN
        go_wp2_with (first | go_big_skip | ((with_reducible refine wpl_absorb H ?_); clear H; (first  | generalize W.heap.size = q0); (try clear W); intro W H) | ((with_reducible refine wpl_drew H ?_); clear H; (try clear W); intro W H) | ((with_reducible refine wpl_drewN H ?_); clear H; (try clear W); intro W H) | ((with_reducible apply wpl_load H); (case hs => exact sc _ rfl); (case hw => rfl); (case hx => rfl); (case hm => (repeat (first | with_reducible exact mH | with_reducible assumption | with_reducible apply mT))); (case hv => rfl)) | ((with_reducible apply wpl_loadA H); (case hs => exact ag _ _ rfl); (case hw => rfl); (case hx => rfl); (case hm => (repeat (first | with_reducible exact mH | with_reducible assumption | with_reducible apply mT))); (case hv => rfl); (case hl => rfl); (try simp only [List.drop_zero, List.drop_succ_cons, List.take_succ_cons, List.take_zero, List.take_nil])) | ((with_reducible apply wpl_storeO H); (case hs => exact sz_sc _ rfl); (case hw => rfl); (case hx => rfl); (case hy => (first | exact (rfl : _ = Value.int _ _) | exact (rfl : _ = Value.bool _) | exact (rfl : _ = Value.slice _ _ _) | exact (rfl : _ = Value.pointer _) | exact (rfl : _ = Value.string _) | rfl)); (case h1 => rfl); (case hm => (repeat (first | with_reducible exact Upd.here | with_reducible assumption | with_reducible apply Upd.there))); (case hj => first | assumption | omega); clear H; (try clear W); intro W H) | ((with_reducible apply wpl_store1 H); (case hs => exact sz_sc _ rfl); (case hw => rfl); (case hx => rfl); (case hy => (first | exact (rfl : _ = Value.int _ _) | exact (rfl : _ = Value.bool _) | exact (rfl : _ = Value.slice _ _ _) | exact (rfl : _ = Value.pointer _) | exact (rfl : _ = Value.string _) | rfl)); (case hm => (repeat (first | with_reducible exact Upd.here | with_reducible assumption | with_reducible apply Upd.there))); (case h1 => rfl); (case hk => exact Nat.le_of_ble_eq_true rfl); clear H; (try clear W); intro W H; simp only [setL, List.set_cons_zero, List.set_cons_succ] at H) | ((with_reducible apply wpl_store H); (case hw => rfl); (case hx => rfl); (case hy => rfl); (case hm => (repeat (first | with_reducible exact Upd.here | with_reducible assumption | with_reducible apply Upd.there))); (case hs => exact sz_ag _ _ rfl); (case h1 => rfl); (case hk => exact Nat.le_of_ble_eq_true rfl); clear H; (try clear W); intro W H; first | rw [setL_whole rfl] at H | simp only [setL, List.set_cons_zero, List.set_cons_succ] at H) | ((with_reducible apply wpl_loadVs0 (j := k * 2 + 1) (v := rh y t) H); (case hs => exact sc _ rfl); (case hw => rfl); (case hx => rfl); (case hm => (first | assumption | (apply gives_own; (case h => (repeat (first | with_reducible exact mH | with_reducible assumption | with_reducible apply mT))); (case hn => rfl)) | (apply gives_blk; (case h => (repeat (first | with_reducible exact mH | with_reducible assumption | with_reducible apply mT))); (case hn => rfl); (case hl => omega)) | (repeat (first | assumption | with_reducible apply Gives.cons)))); (case hj => assumption); (case hv => exact Hrow.out)) | ((with_reducible apply wpl_loadVs0 (j := k * 2) (v := .int .i64 (M : Int)) H); (case hs => exact sc _ rfl); (case hw => rfl); (case hx => rfl); (case hm => (first | assumption | (apply gives_own; (case h => (repeat (first | with_reducible exact mH | with_reducible assumption | with_reducible apply mT))); (case hn => rfl)) | (apply gives_blk; (case h => (repeat (first | with_reducible exact mH | with_reducible assumption | with_reducible apply mT))); (case hn => rfl); (case hl => omega)) | (repeat (first | assumption | with_reducible apply Gives.cons)))); (case hj => assumption); (case hv => exact Hnum.out)))
        refine ⟨⟨k + 1, y, t, by omega, congrArg (Value.int .i64) (by omega), rfl, ?_, .inr ⟨k, Hq.out, by rw [List.getElem?_map, Hx.out]; rfl⟩, H⟩, by simp only [intOf]; omega⟩
        rw [lay_take Hx.out, List.getElem?_set_self (by rw [lay_len, Hn.out]; exact hN)]
      · have hMN2 : ((M : Int) == (N : Int)) = false := by rw [beq_eq_false_iff_ne]; omega
        go_wp2_with (first | go_big_skip | ((with_reducible refine wpl_absorb H ?_); clear H; (first  | generalize W.heap.size = q0); (try clear W); intro W H) | ((with_reducible refine wpl_drew H ?_); clear H; (try clear W); intro W H) | ((with_reducible refine wpl_drewN H ?_); clear H; (try clear W); intro W H) | ((with_reducible apply wpl_load H); (case hs => exact sc _ rfl); (case hw => rfl); (case hx => rfl); (case hm => (repeat (first | with_reducible exact mH | with_reducible assumption | with_reducible apply mT))); (case hv => rfl)) | ((with_reducible apply wpl_loadA H); (case hs => exact ag _ _ rfl); (case hw => rfl); (case hx => rfl); (case hm => (repeat (first | with_reducible exact mH | with_reducible assumption | with_reducible apply mT))); (case hv => rfl); (case hl => rfl); (try simp only [List.drop_zero, List.drop_succ_cons, List.take_succ_cons, List.take_zero, List.take_nil])) | ((with_reducible apply wpl_storeO H); (case hs => exact sz_sc _ rfl); (case hw => rfl); (case hx => rfl); (case hy => (first | exact (rfl : _ = Value.int _ _) | exact (rfl : _ = Value.bool _) | exact (rfl : _ = Value.slice _ _ _) | exact (rfl : _ = Value.pointer _) | exact (rfl : _ = Value.string _) | rfl)); (case h1 => rfl); (case hm => (repeat (first | with_reducible exact Upd.here | with_reducible assumption | with_reducible apply Upd.there))); (case hj => first | assumption | omega); clear H; (try clear W); intro W H) | ((with_reducible apply wpl_store1 H); (case hs => exact sz_sc _ rfl); (case hw => rfl); (case hx => rfl); (case hy => (first | exact (rfl : _ = Value.int _ _) | exact (rfl : _ = Value.bool _) | exact (rfl : _ = Value.slice _ _ _) | exact (rfl : _ = Value.pointer _) | exact (rfl : _ = Value.string _) | rfl)); (case hm => (repeat (first | with_reducible exact Upd.here | with_reducible assumption | with_reducible apply Upd.there))); (case h1 => rfl); (case hk => exact Nat.le_of_ble_eq_true rfl); clear H; (try clear W); intro W H; simp only [setL, List.set_cons_zero, List.set_cons_succ] at H) | ((with_reducible apply wpl_store H); (case hw => rfl); (case hx => rfl); (case hy => rfl); (case hm => (repeat (first | with_reducible exact Upd.here | with_reducible assumption | with_reducible apply Upd.there))); (case hs => exact sz_ag _ _ rfl); (case h1 => rfl); (case hk => exact Nat.le_of_ble_eq_true rfl); clear H; (try clear W); intro W H; first | rw [setL_whole rfl] at H | simp only [setL, List.set_cons_zero, List.set_cons_succ] at H) | ((with_reducible apply wpl_loadVs0 (j := k * 2) (v := .int .i64 (M : Int)) H); (case hs => exact sc _ rfl); (case hw => rfl); (case hx => rfl); (case hm => (first | assumption | (apply gives_own; (case h => (repeat (first | with_reducible exact mH | with_reducible assumption | with_reducible apply mT))); (case hn => rfl)) | (apply gives_blk; (case h => (repeat (first | with_reducible exact mH | with_reducible assumption | with_reducible apply mT))); (case hn => rfl); (case hl => omega)) | (repeat (first | assumption | with_reducible apply Gives.cons)))); (case hj => assumption); (case hv => exact Hnum.out)))
        refine ⟨⟨k + 1, x, s', by omega, congrArg (Value.int .i64) (by omega), rfl, ?_, Hsrc.out, H⟩, by simp only [intOf]; omega⟩
        rw [lay_take Hx.out, List.getElem?_set_ne hMN]
        exact Hl.out
    · obtain rfl : k = m := by omega
      have hl := Hl.out
      rw [← Hm.out, List.take_length, ← (show no = lay su wa from Ho.out.nn), Hs.out] at hl
      obtain rfl : s = s' := Option.some.inj hl
      have hs64 : s.length = 64 := by
        have h1 := lay_64 Ho.out.sl Ho.out.wl
        rw [← Ho.out.nn] at h1
        exact h1 s (List.mem_of_getElem? Hs.out)
      have HG : Hid (∀ L, rwsE q su ∈ L → rwsE qw (wa.map (·.2)) ∈ L → Gives L fun w => Rd w 1 x.1 s.length x.2 (bvs s)) := Lib.hid fun L h1 h2 => by
        rcases Hsrc.out with ⟨h3, h4⟩ | ⟨j, h3, h4⟩
        · exact gives_rws h1 h3 h4
        · exact gives_rws h2 h3 h4
      replace H := H.add_nil 5 1
      clear hl
      have Hs64 := Lib.hid hs64
      have hmx : 0 + s.length ≤ maxLen := by simp only [maxLen]; omega
      have hb0 : (0 + s.length) * 1 ≤ 140737488355328 := by omega
      clear hs64
      go_wp2_with (first | go_big_skip | ((with_reducible refine wpl_absorb H ?_); clear H; (first  | generalize W.heap.size = q0); (try clear W); intro W H) | ((with_reducible refine wpl_drew H ?_); clear H; (try clear W); intro W H) | ((with_reducible refine wpl_drewN H ?_); clear H; (try clear W); intro W H) | ((with_reducible apply wpl_load H); (case hs => exact sc _ rfl); (case hw => rfl); (case hx => rfl); (case hm => (repeat (first | with_reducible exact mH | with_reducible assumption | with_reducible apply mT))); (case hv => rfl)) | ((with_reducible apply wpl_loadA H); (case hs => exact ag _ _ rfl); (case hw => rfl); (case hx => rfl); (case hm => (repeat (first | with_reducible exact mH | with_reducible assumption | with_reducible apply mT))); (case hv => rfl); (case hl => rfl); (try simp only [List.drop_zero, List.drop_succ_cons, List.take_succ_cons, List.take_zero, List.take_nil])) | ((with_reducible apply wpl_storeO H); (case hs => exact sz_sc _ rfl); (case hw => rfl); (case hx => rfl); (case hy => (first | exact (rfl : _ = Value.int _ _) | exact (rfl : _ = Value.bool _) | exact (rfl : _ = Value.slice _ _ _) | exact (rfl : _ = Value.pointer _) | exact (rfl : _ = Value.string _) | rfl)); (case h1 => rfl); (case hm => (repeat (first | with_reducible exact Upd.here | with_reducible assumption | with_reducible apply Upd.there))); (case hj => first | assumption | omega); clear H; (try clear W); intro W H) | ((with_reducible apply wpl_store1 H); (case hs => exact sz_sc _ rfl); (case hw => rfl); (case hx => rfl); (case hy => (first | exact (rfl : _ = Value.int _ _) | exact (rfl : _ = Value.bool _) | exact (rfl : _ = Value.slice _ _ _) | exact (rfl : _ = Value.pointer _) | exact (rfl : _ = Value.string _) | rfl)); (case hm => (repeat (first | with_reducible exact Upd.here | with_reducible assumption | with_reducible apply Upd.there))); (case h1 => rfl); (case hk => exact Nat.le_of_ble_eq_true rfl); clear H; (try clear W); intro W H; simp only [setL, List.set_cons_zero, List.set_cons_succ] at H) | ((with_reducible apply wpl_store H); (case hw => rfl); (case hx => rfl); (case hy => rfl); (case hm => (repeat (first | with_reducible exact Upd.here | with_reducible assumption | with_reducible apply Upd.there))); (case hs => exact sz_ag _ _ rfl); (case h1 => rfl); (case hk => exact Nat.le_of_ble_eq_true rfl); clear H; (try clear W); intro W H; first | rw [setL_whole rfl] at H | simp only [setL, List.set_cons_zero, List.set_cons_succ] at H) | ((with_reducible apply wpl_app H); (case hw => rfl); (case ht => exact Tryd.underlying42); (case hinfo => exact inf_5); (case hs => rfl); (case hx => rfl); (case hm => exact Pull.here); (case hzs => rfl); (case hsz => decide); (case hr => (apply HG.out; all_goals (repeat (first | with_reducible exact mH | with_reducible assumption | with_reducible apply mT)))); (case h1 => exact bvs_oneCell _); (case h63 => assumption); (case hbytes => assumption); clear H; (try clear W); intro A1 n1 c1 W hn1 H hle1 htop1; obtain rfl := hn1.out; clear hn1))
      have e : 0 + s.length = 64 := by rw [Nat.zero_add]; exact Hs64.out
      rw [e, List.nil_append] at H
      have H2 := HK.out A1 c1 _ (Reord.use (rd_shut ⟨gs, cs, q, aw, cw, qw⟩ ⟨su, no, wa, lf, bl⟩ (by
        simp only [Hn.out, Hm.out]
        exact Reord.use H (by ((repeat (with_reducible apply Reord.cons; (case p => (repeat (first | with_reducible exact Pull.here | with_reducible apply Pull.there))))); repeat (first | with_reducible exact Reord.rest | with_reducible apply Reord.drop)))) Ho.out) (by ((repeat (with_reducible apply Reord.cons; (case p => (repeat (first | with_reducible exact Pull.here | with_reducible apply Pull.there))))); repeat (first | with_reducible exact Reord.rest | with_reducible apply Reord.drop))))
      have H3 : R (.returned (.tuple #[.slice A1 s.length c1, .int .i64 0])) W := by rw [Hs64.out]; exact H2
      exact H3
end
end Go.Proofs.YtaegjjaabeakoaaDoor
