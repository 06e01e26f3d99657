/-
  The reference's disk: Sync, Write.
  The reference's disk: Read.
-/
import Derived.Test.YtdnioigcgggdbaaGreatDoorRd2
set_option linter.unusedVariables false
set_option linter.unusedSimpArgs false
namespace Go.Proofs.YtdnioigcgggdbaaGreatDoor
open Go.RowKit

section
variable {W : World} {L L' L0 : List Ent} {R : Ending → World → Prop} {g : Nat} {v : Rv} {d : Dd}
theorem ROk.spend (ho : ROk d) : ROk d.spend := by
  have hb := spentL_le (bl := d.bl) ho.l1 ho.l2
  exact ⟨ho.n0, ho.n1, ho.nn, ho.sl, ho.wl, hb.1, hb.2⟩
set_option maxRecDepth 100000 in
set_option maxHeartbeats 1000000 in
theorem rsync_k (H : Holds W L) (hm : Pull (rdE g v d) L L0) (k : ∀ v' w', Holds w' (rdE g v' d.sync.1 :: L0) → R (.returned (.int .i64 d.sync.2)) w') : Calls Tryz.prog 48 #[.pointer (some ⟨g, 0, none⟩)] W R := by
  have H2 := rd_open (H.pull hm); clear H; obtain ⟨ho, H⟩ := H2
  clear hm
  have HK := Lib.hid k; clear k
  unfold Dd.sync at HK
  have h2 := ho.l2
  have Hsp := Lib.hid ho.spend
  clear ho
  cases hs : spentB d.lf d.bl
  all_goals
    have Hs := Lib.hid hs
    rw [hs] at HK
    simp only [Bool.false_eq_true, if_false, if_true] at HK
    clear hs
    go_enter Tryz.func48, Tryz.ntmps48
    go_wp2_with (first | ((with_reducible apply rmay_k); (case h2 => assumption); (case H => exact H); (case hm => exact Pull.here); clear H; (try clear W); intro W H; replace H := rd_shut (g := g) v d.spend H Hsp.out; rw [Hs.out]) | ((with_reducible apply rsync0_k H); (case hm => exact Pull.here); clear H; (try clear W); intro v2 W H))
    exact HK.out _ _ H
set_option maxRecDepth 100000 in
set_option maxHeartbeats 1000000 in
theorem rwrite_no {A : Option Addr} {m c : Nat} (N : Int) (hn : N < 0 ∨ (d.su.length : Int) ≤ N ∨ 64 < m) (hc : c ≤ 9223372036854775807) (hmc : m ≤ c) (H : Holds W L) (hm : Pull (rdE g v d) L L0) (k : ∀ w', Holds w' (rdE g v d :: L0) → R (.returned (.int .i64 1)) w') :
    Calls Tryz.prog 19 #[.pointer (some ⟨g, 0, none⟩), .int .i64 N, .slice A m c] W R := by
  have H2 := rd_open (H.pull hm); clear H; obtain ⟨ho, H⟩ := H2
  clear hm
  have HK := Lib.hid k; clear k
  have Ho := Lib.hid ho
  clear ho
  by_cases c1 : N < 0
  · clear hn
    go_enter Tryz.func19, Tryz.ntmps19
    go_wp2_with (first | go_big_skip )
    exact HK.out _ (rd_shut _ _ H Ho.out)
  · have d1 : decide (N < 0) = false := by simp; omega
    by_cases c2 : (d.su.length : Int) ≤ N
    · clear hn
      go_enter Tryz.func19, Tryz.ntmps19
      go_wp2_with (first | ((with_reducible apply wpl_load H); (case hs => exact sc _ rfl); (case hw | hx => rfl); (case hm => (with_reducible repeat first | exact mH)); (case hv => rfl)) )
      exact HK.out _ (rd_shut _ _ H Ho.out)
    · have c3 : (64 : Int) < m := by omega
      have d2 : decide ((d.su.length : Int) ≤ N) = false := by simp; omega
      clear hn
      go_enter Tryz.func19, Tryz.ntmps19
      go_wp2_with (first | ((with_reducible apply wpl_load H); (case hs => exact sc _ rfl); (case hw | hx => rfl); (case hm => (with_reducible repeat first | exact mH)); (case hv => rfl)) )
      exact HK.out _ (rd_shut _ _ H Ho.out)
set_option maxRecDepth 100000 in
set_option maxHeartbeats 1000000 in
theorem rwrite_spent {A : Option Addr} {m c : Nat} (N : Nat) (hn : N < d.su.length) (hm64 : m ≤ 64) (hs : spentB d.lf d.bl = true) (hc : c ≤ 9223372036854775807) (hmc : m ≤ c) (H : Holds W L) (hm : Pull (rdE g v d) L L0) (k : ∀ w', Holds w' (rdE g v d.spend :: L0) → R (.returned (.int .i64 9)) w') :
    Calls Tryz.prog 19 #[.pointer (some ⟨g, 0, none⟩), .int .i64 N, .slice A m c] W R := by
  have H2 := rd_open (H.pull hm); clear H; obtain ⟨ho, H⟩ := H2
  clear hm
  have HK := Lib.hid k; clear k
  have h2 := ho.l2
  have Hsp := Lib.hid ho.spend
  have Hs := Lib.hid hs
  have d1 : decide ((N : Int) < 0) = false := by simp
  have d2 : decide ((d.su.length : Int) ≤ N) = false := by simp; omega
  have d3 : decide ((64 : Int) < m) = false := by simp; omega
  clear ho hs
  go_enter Tryz.func19, Tryz.ntmps19
  go_wp2_with (first | ((with_reducible apply wpl_load H); (case hs => exact sc _ rfl); (case hw | hx => rfl); (case hm => (with_reducible repeat first | exact mH)); (case hv => rfl)) | ((with_reducible apply rmay_k); (case h2 => assumption); (case H => exact H); (case hm => exact Pull.here); clear H; (try clear W); intro W H; replace H := rd_shut (g := g) v d.spend H Hsp.out; rw [Hs.out]))
  exact HK.out _ H
theorem pad_row {b : List UInt8} {m : Nat} (hb : b.length = m) (hm : m ≤ 64) : setL (List.replicate 64 (Value.int .u8 0)) 0 (List.take (Nat.min m 64 * 1) (bvs b)) = bvs (padS b) := by
  have e : Nat.min m 64 = m := Nat.min_eq_left hm
  rw [e, Nat.mul_one, List.take_of_length_le (by rw [bvs_length]; omega), setL_eq _ _ _ (by rw [bvs_length]; simp; omega)]
  rw [List.take_zero, List.nil_append, bvs_length, List.drop_replicate]
  unfold padS
  rw [bvs_append, hb, show bvs (List.replicate (64 - m) 0) = List.replicate (64 - m) (Value.int .u8 0) from by unfold bvs; rw [List.map_replicate]; rfl, Nat.zero_add]
theorem inf_wt : (Tryz.prog.info? 103).map (fun i => (i.zero, i.size, i.bytes)) = some (some (.agg #[.int .i64 0, .slice none 0 0]), 2, 32) := by kernel_rfl
set_option maxRecDepth 100000 in
set_option maxHeartbeats 2000000 in
theorem rwrite_yes {A : Option Addr} {m c : Nat} {b : List UInt8} (N : Nat) (hn : N < d.su.length) (hm64 : m ≤ 64) (hs : spentB d.lf d.bl = false) (hlen : d.wa.length ≤ 1000000) (H : Holds W L) (hm : Pull (rdE g v d) L L0) (hr : Gives L0 fun w => Rd w 1 A m c (bvs b))
    (k : ∀ v' w', Holds w' (rdE g v' ⟨d.su, d.no.set N (padS b), d.wa ++ [(N, padS b)], spentL d.lf d.bl, false⟩ :: L0) → R (.returned (.int .i64 0)) w') :
    Calls Tryz.prog 19 #[.pointer (some ⟨g, 0, none⟩), .int .i64 N, .slice A m c] W R := by
  have hR := hr W (H.pull hm).tail
  have hbl := hR.blen
  have hc := hR.top
  have hmc := hR.le
  unfold maxLen at hc
  clear hR
  have H2 := rd_open (H.pull hm); clear H; obtain ⟨ho, H⟩ := H2
  clear hm
  have HK := Lib.hid k; clear k
  obtain ⟨gs, cs, q, aw, cw, qw⟩ := v
  obtain ⟨su, no, wa, lf, bl⟩ := d
  have h1 := ho.l1
  have h2 := ho.l2
  simp only at h1 h2 hn hlen hs H
  have Hp := Lib.hid (pad_row hbl hm64)
  have Hl64 := Lib.hid (padS_len (b := b) (by omega))
  have Hs := Lib.hid hs
  have Ho := Lib.hid ho
  have hqw := rws_len (q := qw) (ls := wa.map (·.2)) H (by (with_reducible repeat first | exact mH | assumption | apply mT))
  rw [List.length_map] at hqw
  have Hqw := Lib.hid hqw
  have Hsn := Lib.hid hn
  have d1 : decide ((N : Int) < 0) = false := by simp
  have d2 : decide ((su.length : Int) ≤ N) = false := by simp; omega
  have d3 : decide ((64 : Int) < m) = false := by simp; omega
  have h3 : (N : Int) < su.length := by omega
  generalize hwm : wa.length = mw at *
  have Hwm := Lib.hid hwm
  clear ho hs hbl hqw hwm
  go_enter Tryz.func19, Tryz.ntmps19
  go_wp2_with (first | ((with_reducible apply wpl_load H); (case hs => exact sc _ rfl); (case hw | hx => rfl); (case hm => (with_reducible repeat first | exact mH | apply mT)); (case hv => rfl)) | ((with_reducible apply wpl_store1 H); (case hs => exact sz_sc _ rfl); (case hw | hx => rfl); (case hy => (first | exact (rfl : _ = Value.slice _ _ _) )); (case hm => (with_reducible repeat first | exact Upd.here | apply Upd.there)); (case h1 => rfl); (case hk => exact Nat.le_of_ble_eq_true rfl); clear H; (try clear W); intro W H; simp only [setL, List.set_cons_zero, List.set_cons_succ] at H) | ((with_reducible apply rmay_k); (case h2 => assumption); (case H => exact H); (case hm => exact Pull.here); clear H; (try clear W); intro W H; rw [Hs.out] at H ⊢) | ((with_reducible apply wpl_make1 H 64 64); (case ht => exact Tryz.underlying50); (case hinfo => exact inf_5); (case hw | hl => rfl); (case hc | hN => rfl); (case hC | hz1 => rfl); (case hnc | hb | h63 => omega); (case hmx => (simp only [maxLen]; omega)); clear H; (try clear W); intro q1 W H) | ((with_reducible apply wpl_copyO H); (case hw | hx | hy => rfl); (case hu => exact Tryz.underlying50); (case hs => kernel_rfl); (case hr => (first | (repeat (first | assumption | with_reducible apply Gives.cons)))); (case h1 => exact bvs_oneCell _); (case hm => (with_reducible repeat first | exact Upd.here)); clear H; (try clear W); intro W H; rw [Hp.out] at H) | ((with_reducible apply wpl_slice1 (vs := [.int .i64 (N : Int), .slice (some ⟨q1, 0, none⟩) 64 64]) H); (case hw | hx => rfl); (case ht => exact Tryz.underlying72); (case hinfo => exact inf_wt); (case hzs | hl => rfl); (case h0 => decide); (case h24 => exact Nat.le_of_ble_eq_true rfl); clear H; (try clear W); intro q2 W H) | ((with_reducible apply wpl_app H); (case hw => rfl); (case ht => exact Tryz.underlying72); (case hinfo => exact inf_wt); (case hs | hx => rfl); (case hm => (with_reducible repeat first | exact Pull.here | apply Pull.there)); (case hzs => rfl); (case hsz => decide); (case hr => exact gives_blk1 (by (with_reducible repeat first | exact mH)) rfl); (case h1 => (intro u hu; rcases List.mem_cons.1 hu with rfl | hu; (rfl); (obtain rfl := List.mem_singleton.1 hu; rfl))); (case h63 => (simp only [maxLen]; omega)); (case hbytes => omega); clear H; (try clear W); intro A1 n1 c1 W hn1 H hle1 htop1; obtain rfl := hn1.out; clear hn1))
  rw [rwE_64 Hl64.out] at H
  have H2 : Holds W (rwE (some ⟨q1, 0, none⟩, 64) (padS b) :: rwsE qw (wa.map (·.2)) :: blk g [.slice (some ⟨gs, 0, none⟩) su.length cs, .slice A1 (mw + 1) c1, .int .i64 (clf (spentL lf bl)), .bool false] 74 :: ownE 50 1 (.slice (some ⟨gs, 0, none⟩) su.length cs) su.length (List.zipWith rh q su) :: rwsE q su :: ownE 103 2 (.slice A1 (mw + 1) c1) (mw + 1) (wtc qw wa ++ [.int .i64 (N : Int), .slice (some ⟨q1, 0, none⟩) 64 64]) :: L0) := Reord.use H (by ((repeat (with_reducible apply Reord.cons; (case p => (with_reducible repeat first | exact Pull.here | apply Pull.there)))); repeat (first | with_reducible exact Reord.rest | with_reducible apply Reord.drop)))
  have H3 := rws_add H2
  have e1 : wa.map (·.2) ++ [padS b] = (wa ++ [(N, padS b)]).map (·.2) := by rw [List.map_append]; rfl
  have e2 : wtc qw wa ++ [.int .i64 (N : Int), .slice (some ⟨q1, 0, none⟩) 64 64] = wtc (qw ++ [(some ⟨q1, 0, none⟩, 64)]) (wa ++ [(N, padS b)]) := by
    rw [wtc_snoc (by rw [Hwm.out]; exact Hqw.out)]
    unfold rh
    rw [Hl64.out]
  rw [e1, e2] at H3
  have ho := Ho.out
  have hb := spentL_le (bl := bl) h1 h2
  refine HK.out ⟨gs, cs, q, A1, c1, qw ++ [(some ⟨q1, 0, none⟩, 64)]⟩ _ (rd_shut _ _ ?_ ⟨ho.n0, ho.n1, ?_, ho.sl, ?_, hb.1, hb.2⟩)
  · simp only [List.length_append, List.length_cons, List.length_nil, Nat.zero_add, Hwm.out]
    exact Reord.use H3 (by ((repeat (with_reducible apply Reord.cons; (case p => (with_reducible repeat first | exact Pull.here | apply Pull.there)))); repeat (with_reducible exact Reord.rest)))
  · have := ho.nn
    simp only at this ⊢
    rw [lay_snoc, this]
  · intro x hx
    rcases List.mem_append.1 hx with h | h
    · exact ho.wl x h
    · obtain rfl := List.mem_singleton.1 h
      exact ⟨hn, Hl64.out⟩
end
end Go.Proofs.YtdnioigcgggdbaaGreatDoor
set_option linter.unusedVariables false
set_option linter.unusedSimpArgs false
namespace Go.Proofs.YtdnioigcgggdbaaGreatDoor
open Go.RowKit

section
variable {W : World} {L L' L0 : List Ent} {R : Ending → World → Prop} {g : Nat} {v : Rv} {d : Dd}
set_option maxRecDepth 100000 in
set_option maxHeartbeats 1000000 in
theorem rread_no (n : Int) (hn : n < 0 ∨ (d.su.length : Int) ≤ n) (H : Holds W L) (hm : Pull (rdE g v d) L L0) (k : ∀ w', Holds w' (rdE g v d :: L0) → R (.returned (.tuple #[.slice none 0 0, .int .i64 1])) w') :
    Calls Tryz.prog 61 #[.pointer (some ⟨g, 0, none⟩), .int .i64 n] W R := by
  have H2 := rd_open (H.pull hm); clear H; obtain ⟨ho, H⟩ := H2
  clear hm
  have HK := Lib.hid k; clear k
  have Ho := Lib.hid ho
  clear ho
  by_cases c1 : n < 0
  · clear hn
    go_enter Tryz.func61, Tryz.ntmps61
    go_wp2_with (first | go_big_skip )
    exact HK.out _ (rd_shut _ _ H Ho.out)
  · have d1 : decide (n < 0) = false := by simp; omega
    have c2 : (d.su.length : Int) ≤ n := by omega
    clear hn
    go_enter Tryz.func61, Tryz.ntmps61
    go_wp2_with (first | ((with_reducible apply wpl_load H); (case hs => exact sc _ rfl); (case hw | hx => rfl); (case hm => (with_reducible repeat first | exact mH)); (case hv => rfl)) )
    exact HK.out _ (rd_shut _ _ H Ho.out)
theorem zip_at {α β γ : Type} {f : α → β → γ} {q : List α} {l : List β} {j : Nat} {x : α} {y : β} (hx : q[j]? = some x) (hy : l[j]? = some y) : (List.zipWith f q l)[j]? = some (f x y) := by
  rw [List.getElem?_zipWith, hx, hy]
set_option maxRecDepth 100000 in
set_option maxHeartbeats 1000000 in
theorem rread_k (N : Nat) (s : List UInt8) (hs : d.no[N]? = some s) (H : Holds W L) (hm : Pull (rdE g v d) L L0) (k : ∀ A c w', Holds w' (ownE 5 1 (.slice A 64 c) 64 (bvs s) :: rdE g v d :: L0) → R (.returned (.tuple #[.slice A 64 c, .int .i64 0])) w') :
    Calls Tryz.prog 61 #[.pointer (some ⟨g, 0, none⟩), .int .i64 N] W R := by
  have H2 := rd_open (H.pull hm); clear H; obtain ⟨ho, H⟩ := H2
  clear hm
  have HK := Lib.hid k; clear k
  obtain ⟨gs, cs, q, aw, cw, qw⟩ := v
  obtain ⟨su, no, wa, lf, bl⟩ := d
  have Ho := Lib.hid ho
  have hql := rws_len (q := q) (ls := su) H (by (with_reducible repeat first | exact mH | assumption | apply mT))
  have hqw := rws_len (q := qw) (ls := wa.map (·.2)) H (by (with_reducible repeat first | exact mH | assumption | apply mT))
  rw [List.length_map] at hqw
  have enn := ho.nn
  simp only at H hs enn
  have hN : N < su.length := by
    have := (List.getElem?_eq_some_iff.1 hs).1
    rw [enn, lay_len] at this
    exact this
  have hNi : (N : Int) < su.length := by omega
  have d1 : decide ((N : Int) < 0) = false := by simp
  have d2 : decide ((su.length : Int) ≤ N) = false := by simp; omega
  obtain ⟨s0, hs0⟩ : ∃ s, su[N]? = some s := ⟨_, List.getElem?_eq_getElem hN⟩
  obtain ⟨x0, hx0⟩ : ∃ x, q[N]? = some x := ⟨_, List.getElem?_eq_getElem (by omega)⟩
  have Hs0 := Lib.hid hs0
  have Hx0 := Lib.hid hx0
  have Hz0 := Lib.hid (zip_at (f := rh) hx0 hs0)
  have Hql := Lib.hid hql
  have Hqw := Lib.hid hqw
  have Hs := Lib.hid hs
  have hcw := own_le (H.all (ownE 103 2 (.slice aw wa.length cw) wa.length (wtc qw wa)) (by (with_reducible repeat first | exact mH | assumption | apply mT)))
  have hm63 : wa.length ≤ 9223372036854775807 := Nat.le_trans hcw.1 hcw.2
  generalize hn : su.length = n at *
  have Hn := Lib.hid hn
  generalize hm : wa.length = m at *
  have Hm := Lib.hid hm
  clear ho hql hqw hs0 hx0 hn hm hs hcw enn
  go_enter Tryz.func61, Tryz.ntmps61
  go_wp2_with (first | ((with_reducible apply wpl_load H); (case hs => exact sc _ rfl); (case hw | hx => rfl); (case hm => (with_reducible repeat first | exact mH | apply mT)); (case hv => rfl)) | ((with_reducible apply wpl_loadVs0 (j := N) (v := rh x0 s0) H); (case hs => exact sc _ rfl); (case hw | hx => rfl); (case hm => (first | (apply gives_own; (case h => (with_reducible repeat first | exact mH | apply mT)); (case hn => rfl)) )); (case hj => omega); (case hv => exact Hz0.out)))
  go_loopw [6, 7] (fun b i wr => ∃ (k : Nat) (x : Option Addr × Nat) (s : List UInt8), k ≤ m ∧ i = .int .i64 k ∧ b = rh x s ∧ (lay su (wa.take k))[N]? = some s ∧ ((q[N]? = some x ∧ su[N]? = some s) ∨ ∃ j : Nat, qw[j]? = some x ∧ (wa.map (·.2))[j]? = some s) ∧
    Holds wr (blk g [.slice (some ⟨gs, 0, none⟩) n cs, .slice aw m cw, .int .i64 (clf lf), .bool bl] 74 ::
    ownE 50 1 (.slice (some ⟨gs, 0, none⟩) n cs) n (List.zipWith rh q su) :: rwsE q su :: ownE 103 2 (.slice aw m cw) m (wtc qw wa) :: rwsE qw (wa.map (·.2)) :: L0)) (fun _ i _ => m - (intOf i).toNat)
  case atStart => exact ⟨0, x0, s0, by omega, rfl, rfl, Hs0.out, .inl ⟨Hx0.out, Hs0.out⟩, H⟩
  case round =>
    clear H W
    obtain ⟨k, x, s', hk, rfl, rfl, hl, hsrc, H⟩ := hrel
    rename World => W
    have Hl := Lib.hid hl
    have Hsrc := Lib.hid hsrc
    clear hl hsrc
    by_cases hlt : k < m
    · have hki : (k : Int) < m := by omega
      obtain ⟨aw, rfl⟩ := own_some (H.all (ownE 103 2 (.slice aw m cw) m (wtc qw wa)) (by (with_reducible repeat first | exact mH | assumption | apply mT))) (by omega)
      obtain ⟨⟨M, t⟩, hx⟩ : ∃ x, wa[k]? = some x := ⟨_, List.getElem?_eq_getElem (by rw [Hm.out]; exact hlt)⟩
      obtain ⟨y, hq⟩ : ∃ x, qw[k]? = some x := ⟨_, List.getElem?_eq_getElem (by rw [Hqw.out]; exact hlt)⟩
      obtain ⟨hnum, hrow⟩ := wtc_at k hq hx
      simp only at hnum hrow
      have hk2 : k * 2 < m * 2 := by omega
      have hk3 : k * 2 + 1 < m * 2 := by omega
      have Hnum := Lib.hid hnum
      have Hrow := Lib.hid hrow
      have Hx := Lib.hid hx
      have Hq := Lib.hid hq
      clear hnum hrow hx hq
      by_cases hMN : M = N
      · subst hMN
        go_wp2_with (first | ((with_reducible apply wpl_load H); (case hs => exact sc _ rfl); (case hw | hx => rfl); (case hm => (with_reducible repeat first | exact mH | apply mT)); (case hv => rfl)) | ((with_reducible apply wpl_loadVs0 (j := k * 2 + 1) (v := rh y t) H); (case hs => exact sc _ rfl); (case hw | hx => rfl); (case hm => (first | (apply gives_own; (case h => (with_reducible repeat first | exact mH | apply mT)); (case hn => rfl)) )); (case hj => assumption); (case hv => exact Hrow.out)) | ((with_reducible apply wpl_loadVs0 (j := k * 2) (v := .int .i64 (M : Int)) H); (case hs => exact sc _ rfl); (case hw | hx => rfl); (case hm => (first | (apply gives_own; (case h => (with_reducible repeat first | exact mH | apply mT)); (case hn => rfl)) )); (case hj => assumption); (case hv => exact Hnum.out)))
        refine ⟨⟨k + 1, y, t, by omega, congrArg (Value.int .i64) (by omega), rfl, ?_, .inr ⟨k, Hq.out, by rw [List.getElem?_map, Hx.out]; rfl⟩, H⟩, by simp only [intOf]; omega⟩
        rw [lay_take Hx.out, List.getElem?_set_self (by rw [lay_len, Hn.out]; exact hN)]
      · have hMN2 : ((M : Int) == (N : Int)) = false := by rw [beq_eq_false_iff_ne]; omega
        go_wp2_with (first | ((with_reducible apply wpl_load H); (case hs => exact sc _ rfl); (case hw | hx => rfl); (case hm => (with_reducible repeat first | exact mH | apply mT)); (case hv => rfl)) | ((with_reducible apply wpl_loadVs0 (j := k * 2) (v := .int .i64 (M : Int)) H); (case hs => exact sc _ rfl); (case hw | hx => rfl); (case hm => (first | (apply gives_own; (case h => (with_reducible repeat first | exact mH | apply mT)); (case hn => rfl)) )); (case hj => assumption); (case hv => exact Hnum.out)))
        refine ⟨⟨k + 1, x, s', by omega, congrArg (Value.int .i64) (by omega), rfl, ?_, Hsrc.out, H⟩, by simp only [intOf]; omega⟩
        rw [lay_take Hx.out, List.getElem?_set_ne hMN]
        exact Hl.out
    · obtain rfl : k = m := by omega
      have hl := Hl.out
      rw [← Hm.out, List.take_length, ← (show no = lay su wa from Ho.out.nn), Hs.out] at hl
      obtain rfl : s = s' := Option.some.inj hl
      have hs64 : s.length = 64 := by
        have h1 := lay_64 Ho.out.sl Ho.out.wl
        rw [← Ho.out.nn] at h1
        exact h1 s (List.mem_of_getElem? Hs.out)
      have HG : Hid (∀ L, rwsE q su ∈ L → rwsE qw (wa.map (·.2)) ∈ L → Gives L fun w => Rd w 1 x.1 s.length x.2 (bvs s)) := Lib.hid fun L h1 h2 => by
        rcases Hsrc.out with ⟨h3, h4⟩ | ⟨j, h3, h4⟩
        · exact gives_rws h1 h3 h4
        · exact gives_rws h2 h3 h4
      replace H := H.add_nil 5 1
      clear hl
      have Hs64 := Lib.hid hs64
      have hmx : 0 + s.length ≤ maxLen := by simp only [maxLen]; omega
      have hb0 : (0 + s.length) * 1 ≤ 140737488355328 := by omega
      clear hs64
      go_wp2_with (first | ((with_reducible apply wpl_load H); (case hs => exact sc _ rfl); (case hw | hx => rfl); (case hm => (with_reducible repeat first | exact mH | apply mT)); (case hv => rfl)) | ((with_reducible apply wpl_app H); (case hw => rfl); (case ht => exact Tryz.underlying50); (case hinfo => exact inf_5); (case hs | hx => rfl); (case hm => exact Pull.here); (case hzs => rfl); (case hsz => decide); (case hr => (apply HG.out; all_goals (with_reducible repeat first | exact mH | apply mT))); (case h1 => exact bvs_oneCell _); (case h63 => assumption); (case hbytes => assumption); clear H; (try clear W); intro A1 n1 c1 W hn1 H hle1 htop1; obtain rfl := hn1.out; clear hn1))
      have e : 0 + s.length = 64 := by rw [Nat.zero_add]; exact Hs64.out
      rw [e, List.nil_append] at H
      have H2 := HK.out A1 c1 _ (Reord.use (rd_shut ⟨gs, cs, q, aw, cw, qw⟩ ⟨su, no, wa, lf, bl⟩ (by
        simp only [Hn.out, Hm.out]
        exact Reord.use H (by ((repeat (with_reducible apply Reord.cons; (case p => (with_reducible repeat first | exact Pull.here | apply Pull.there)))); repeat (with_reducible exact Reord.rest)))) Ho.out) (by ((repeat (with_reducible apply Reord.cons; (case p => (with_reducible repeat first | exact Pull.here | apply Pull.there)))); repeat (with_reducible exact Reord.rest))))
      have H3 : R (.returned (.tuple #[.slice A1 s.length c1, .int .i64 0])) W := by rw [Hs64.out]; exact H2
      exact H3
end
end Go.Proofs.YtdnioigcgggdbaaGreatDoor
