/-
  The reference's disk: Fail.
-/
import Derived.Test.YtdnioigcgggdbaaGreatDoorRd5
set_option linter.unusedVariables false
set_option linter.unusedSimpArgs false
namespace Go.Proofs.YtdnioigcgggdbaaGreatDoor
open Go.RowKit

theorem failK_more {su : List (List UInt8)} {wa : List (Nat × List UInt8)} {kept : List Bool} {a : Nat} (ha : kept.length ≤ a) : ∀ b, failK su wa kept (a + b) = failK su wa kept a
  | 0 => rfl
  | b + 1 => by
    have h : kept[a + b]? = none := List.getElem?_eq_none (by omega)
    rw [show a + (b + 1) = (a + b) + 1 from rfl, failK, h, failK_more ha b]
    split
    · rename_i h1; cases h1
    · rfl
theorem failK_min (su : List (List UInt8)) (wa : List (Nat × List UInt8)) (kept : List Bool) : failK su wa kept (min wa.length kept.length) = failK su wa kept wa.length := by
  rcases Nat.le_total wa.length kept.length with h | h
  · rw [Nat.min_eq_left h]
  · rw [Nat.min_eq_right h]
    have := failK_more (su := su) (wa := wa) (Nat.le_refl kept.length) (wa.length - kept.length)
    rw [show kept.length + (wa.length - kept.length) = wa.length from by omega] at this
    exact this.symm
theorem zip_rh {q : List (Option Addr × Nat)} {ls : List (List UInt8)} (hl : q.length = ls.length) {j : Nat} {s t : List UInt8} (hs : ls[j]? = some s) (ht : t.length = s.length) : List.zipWith rh q (ls.set j t) = List.zipWith rh q ls := by
  have hj := (List.getElem?_eq_some_iff.1 hs).1
  obtain ⟨x, hx⟩ : ∃ x, q[j]? = some x := ⟨_, List.getElem?_eq_getElem (by omega)⟩
  have h := zipS rh hl (j := j) (x := x) (s := t)
  rw [set_same hx] at h
  rw [h]
  apply set_same
  rw [zip_at hx hs]
  unfold rh
  rw [ht]
/-- the first k rows of it, and noughts. -/
def cpK (su : List (List UInt8)) (k : Nat) : List (List UInt8) := su.take k ++ List.replicate (su.length - k) zsec
theorem cpK_len {su : List (List UInt8)} {k : Nat} (h : k ≤ su.length) : (cpK su k).length = su.length := by
  unfold cpK; rw [List.length_append, List.length_take, List.length_replicate]; omega
theorem cpK_at {su : List (List UInt8)} {k : Nat} (h : k < su.length) : (cpK su k)[k]? = some zsec := by
  unfold cpK
  rw [List.getElem?_append_right (by rw [List.length_take]; omega), List.length_take, List.getElem?_replicate, if_pos (by omega)]
theorem cpK_set {su : List (List UInt8)} {k : Nat} {s : List UInt8} (h : su[k]? = some s) : (cpK su k).set k s = cpK su (k + 1) := by
  have hk := (List.getElem?_eq_some_iff.1 h).1
  unfold cpK
  rw [List.set_append_right _ _ (by rw [List.length_take]; omega), List.length_take, show k - min k su.length = 0 from by omega, show su.length - k = (su.length - (k + 1)) + 1 from by omega, List.replicate_succ, List.set_cons_zero, List.take_add_one, h]
  simp
theorem cpK_all (su : List (List UInt8)) : cpK su su.length = su := by unfold cpK; simp
theorem copy_row {t s : List UInt8} {n : Nat} (ht : t.length = 64) (hs : s.length = 64) : setL (bvs t) 0 (List.take (Nat.min 64 64 * 1) (bvs s)) = bvs s := by
  rw [show Nat.min 64 64 * 1 = 64 from rfl, List.take_of_length_le (by rw [bvs_length]; omega), setL_all' (by rw [bvs_length, bvs_length]; omega)]
section
variable {W : World} {L L' L0 : List Ent} {R : Ending → World → Prop} {g : Nat} {v : Rv} {d : Dd}
set_option maxRecDepth 100000 in
set_option maxHeartbeats 2000000 in
theorem rfail_k {A : Option Addr} {m c : Nat} {kept : List Bool} (H : Holds W L) (hm : Pull (rdE g v d) L L0) (hr : Gives L0 fun w => Rd w 1 A m c (kept.map Value.bool)) (hlen : d.wa.length ≤ 1000000)
    (k : ∀ g2 v2 w', Holds w' (rdE g2 v2 (dnew (failK d.su d.wa kept (min d.wa.length kept.length))) :: rdE g v d :: L0) → R (.returned (.pointer (some ⟨g2, 0, none⟩))) w') :
    Calls Tryz.prog 15 #[.pointer (some ⟨g, 0, none⟩), .slice A m c] W R := by
  have hR := hr W (H.pull hm).tail
  have hkl : kept.length = m := by have := hR.len; rw [List.length_map] at this; omega
  clear hR
  have H2 := rd_open (H.pull hm); clear H; obtain ⟨ho, H⟩ := H2
  clear hm
  rw [failK_min] at k
  have HK := Lib.hid k; clear k
  obtain ⟨gs, cs, q, aw, cw, qw⟩ := v
  obtain ⟨su, no, wa, lf, bl⟩ := d
  have Ho := Lib.hid ho
  have hql := rws_len (q := q) (ls := su) H (by (with_reducible repeat first | exact mH | assumption | apply mT))
  have hqw := rws_len (q := qw) (ls := wa.map (·.2)) H (by (with_reducible repeat first | exact mH | assumption | apply mT))
  rw [List.length_map] at hqw
  have h0 := ho.n0
  have h1 := ho.n1
  simp only at H h0 h1 hlen
  have Hql := Lib.hid hql
  have Hqw := Lib.hid hqw
  have Hkl := Lib.hid hkl
  simp only at HK
  generalize hn : su.length = n at *
  have Hn := Lib.hid hn
  generalize hwm : wa.length = mw at *
  have Hwm := Lib.hid hwm
  clear ho hql hqw hn hwm hkl
  go_enter Tryz.func15, Tryz.ntmps15
  go_wp2_with (first | ((with_reducible apply wpl_load H); (case hs => exact sc _ rfl); (case hw | hx => rfl); (case hm => (with_reducible repeat first | exact mH)); (case hv => rfl)) | ((with_reducible apply rnew_k n h0 h1); (case H => exact H); clear H; (try clear W); intro g2 v2 W H))
  have HO := rd_open H
  clear H
  obtain ⟨ho2, H⟩ := HO
  obtain ⟨gs2, cs2, q2, aw2, cw2, qw2⟩ := v2
  simp only [dnew, List.length_replicate, List.length_nil] at H
  rw [show clf (-1) = -1 from rfl] at H
  have hq2 := rws_len (q := q2) (ls := List.replicate n zsec) H (by (with_reducible repeat first | exact mH | assumption | apply mT))
  rw [List.length_replicate] at hq2
  have Hq2 := Lib.hid hq2
  clear hq2 ho2
  have hp0 : List.replicate n zsec = cpK su 0 := by unfold cpK; rw [List.take_zero, List.nil_append, Hn.out, Nat.sub_zero]
  rw [hp0] at H
  clear hp0
  go_loopw [7] (fun i wr => ∃ k : Nat, k ≤ n ∧ i = .int .i64 k ∧ Holds wr (blk g2 [.slice (some ⟨gs2, 0, none⟩) n cs2, .slice aw2 0 cw2, .int .i64 (-1), .bool false] 74 ::
    ownE 50 1 (.slice (some ⟨gs2, 0, none⟩) n cs2) n (List.zipWith rh q2 (cpK su k)) :: rwsE q2 (cpK su k) :: ownE 103 2 (.slice aw2 0 cw2) 0 (wtc qw2 []) :: rwsE qw2 (([] : List (Nat × List UInt8)).map (·.2)) ::
    blk g [.slice (some ⟨gs, 0, none⟩) n cs, .slice aw mw cw, .int .i64 (clf lf), .bool bl] 74 ::
    ownE 50 1 (.slice (some ⟨gs, 0, none⟩) n cs) n (List.zipWith rh q su) :: rwsE q su :: ownE 103 2 (.slice aw mw cw) mw (wtc qw wa) :: rwsE qw (wa.map (·.2)) :: L0)) (fun i _ => n - (intOf i).toNat)
  case atStart => exact ⟨0, by omega, rfl, H⟩
  case round =>
    clear H W
    obtain ⟨k, hk, rfl, H⟩ := hrel
    rename World => W
    by_cases hlt : k < n
    · have hki : (k : Int) < n := by omega
      obtain ⟨s, hs⟩ : ∃ s, su[k]? = some s := ⟨_, List.getElem?_eq_getElem (by rw [Hn.out]; exact hlt)⟩
      obtain ⟨x, hx⟩ : ∃ x, q[k]? = some x := ⟨_, List.getElem?_eq_getElem (by rw [Hql.out]; exact hlt)⟩
      obtain ⟨⟨B2, c2⟩, hx2⟩ : ∃ x, q2[k]? = some x := ⟨_, List.getElem?_eq_getElem (by rw [Hq2.out]; exact hlt)⟩
      have hs64 := Ho.out.sl s (List.mem_of_getElem? hs)
      have hc := cpK_at (su := su) (by rw [Hn.out]; exact hlt : k < su.length)
      have H2 : Holds W (rwsE q2 (cpK su k) :: blk g2 [.slice (some ⟨gs2, 0, none⟩) n cs2, .slice aw2 0 cw2, .int .i64 (-1), .bool false] 74 ::
    ownE 50 1 (.slice (some ⟨gs2, 0, none⟩) n cs2) n (List.zipWith rh q2 (cpK su k)) :: ownE 103 2 (.slice aw2 0 cw2) 0 (wtc qw2 []) :: rwsE qw2 (([] : List (Nat × List UInt8)).map (·.2)) ::
    blk g [.slice (some ⟨gs, 0, none⟩) n cs, .slice aw mw cw, .int .i64 (clf lf), .bool bl] 74 ::
    ownE 50 1 (.slice (some ⟨gs, 0, none⟩) n cs) n (List.zipWith rh q su) :: rwsE q su :: ownE 103 2 (.slice aw mw cw) mw (wtc qw wa) :: rwsE qw (wa.map (·.2)) :: L0) := Reord.use H (by ((repeat (with_reducible apply Reord.cons; (case p => (with_reducible repeat first | exact Pull.here | apply Pull.there)))); repeat (with_reducible exact Reord.rest)))
      obtain ⟨R0, H3, hclose⟩ := rws_open H2 hx2 hc
      clear H H2
      obtain ⟨b2, rfl⟩ : ∃ b, B2 = some ⟨b, 0, none⟩ := own_some (m := 64) (H3.all _ List.mem_cons_self) (by omega)
      have H : Holds W (ownE 5 1 (.slice (some ⟨b2, 0, none⟩) 64 c2) 64 (bvs zsec) :: _) := H3
      clear H3
      have Hz2 : Hid ((List.zipWith rh q2 (cpK su k))[k]? = some (.slice (some ⟨b2, 0, none⟩) 64 c2)) := Lib.hid (zip_at hx2 hc)
      have Hz : Hid ((List.zipWith rh q su)[k]? = some (.slice x.1 64 x.2)) := Lib.hid (by rw [zip_at hx hs]; unfold rh; rw [hs64])
      have HG : Hid (∀ L, rwsE q su ∈ L → Gives L fun w => Rd w 1 x.1 64 x.2 (bvs s)) := Lib.hid fun L h1 => by
        have := gives_rws h1 hx hs
        rw [hs64] at this
        exact this
      have Hcp := Lib.hid (copy_row (n := 0) (show zsec.length = 64 from rfl) hs64)
      have Hs := Lib.hid hs
      have Hs64 := Lib.hid hs64
      have Hc := Lib.hid hc
      have Hx2 := Lib.hid hx2
      have Hclose := Lib.hid hclose
      clear hs hx hx2 hs64 hc hclose
      go_wp2_with (first | ((with_reducible apply wpl_load H); (case hs => exact sc _ rfl); (case hw | hx => rfl); (case hm => (with_reducible repeat first | exact mH | apply mT)); (case hv => rfl)) )
      ((refine wp_region_J [14] H (by kernel_rfl) ?_); clear H; (try clear W); intro W H; (apply anyJ_takeP 0 (oi := Oper.mk _ _ _ _ _ _) rfl); (case hs | hf => kernel_rfl); (case hr | hF => kernel_rfl); (case hQ => exact fun _ _ _ h => h); (case H => first | exact .inr H ); (case hy => first | (apply yields_pure rfl; intro w; first | (go_simp; with_reducible rfl) )); (try simp only [Act.put, sA, sB, sC]); (apply anyJ_takeP 1 (oi := Oper.mk _ _ _ _ _ _) rfl); (case hs | hf => kernel_rfl); (case hr | hF => kernel_rfl); (case hQ => exact fun _ _ _ h => h); (case H => first | exact .inr H ); (case hy => first | (apply yields_pure rfl; intro w; first | (go_simp; with_reducible rfl) )); (try simp only [Act.put, sA, sB, sC]); (apply anyJ_takeP 2 (oi := Oper.mk _ _ _ _ _ _) rfl); (case hs | hf => kernel_rfl); (case hr | hF => kernel_rfl); (case hQ => exact fun _ _ _ h => h); (case H => first | exact .inr H ); (case hy => first | (apply yields_pure rfl; intro w; first | (go_simp; with_reducible rfl) )); (try simp only [Act.put, sA, sB, sC]); (apply anyJ_takeP 4 (oi := Oper.mk _ _ _ _ _ _) rfl); (case hs | hf => kernel_rfl); (case hr | hF => kernel_rfl); (case hQ => exact fun _ _ _ h => h); (case H => first | exact .inr H ); (case hy => first | (apply yields_pure rfl; intro w; first | (go_simp; with_reducible rfl) )); (try simp only [Act.put, sA, sB, sC]); (apply anyJ_takeP 7 (oi := Oper.mk _ _ _ _ _ _) rfl); (case hs | hf => kernel_rfl); (case hr | hF => kernel_rfl); (case hQ => exact fun _ _ _ h => h); (case H => first | exact .inr H ); (case hy => first | (apply yields_pure rfl; intro w; first | (go_simp; with_reducible rfl) )); (try simp only [Act.put, sA, sB, sC]); (apply anyJ_takeP 8 (oi := Oper.mk _ _ _ _ _ _) rfl); (case hs | hf => kernel_rfl); (case hr | hF => kernel_rfl); (case hQ => exact fun _ _ _ h => h); (case H => first | exact .inr H ); (case hy => first | (apply yields_pure rfl; intro w; first | (go_simp; with_reducible rfl) )); (try simp only [Act.put, sA, sB, sC]); (apply anyJ_takeP 9 (oi := Oper.mk _ _ _ _ _ _) rfl); (case hs | hf => kernel_rfl); (case hr | hF => kernel_rfl); (case hQ => exact fun _ _ _ h => h); (case H => first | exact .inr H ); (case hy => first | (apply yields_pure rfl; intro w; first | (go_simp; with_reducible rfl) )); (try simp only [Act.put, sA, sB, sC]); (apply anyJ_takeP 11 (oi := Oper.mk _ _ _ _ _ _) rfl); (case hs | hf => kernel_rfl); (case hr | hF => kernel_rfl); (case hQ => exact fun _ _ _ h => h); (case H => first | exact .inr H ); (case hy => first | (apply yields_pure rfl; intro w; first | (go_simp; with_reducible rfl) )); (try simp only [Act.put, sA, sB, sC]); (apply anyJ_take 3 (oi := Oper.mk _ _ _ _ _ _) rfl); (case hs | hf => kernel_rfl); (case hr | hc | hF => kernel_rfl); (case hQ => exact fun _ _ _ h => h); (case H => first | exact H ); (case hy => (first | ((apply yields_load); (case hs => exact sc _ rfl); (case hw | hx => rfl); (case hm => (with_reducible repeat first | exact mH | apply mT)); (case hv => rfl)) )); (try simp only [Act.put, sA, sB, sC]); (apply anyJ_takeP 5 (oi := Oper.mk _ _ _ _ _ _) rfl); (case hs | hf => kernel_rfl); (case hr | hF => kernel_rfl); (case hQ => exact fun _ _ _ h => h); (case H => first | exact .inr H ); (case hy => first | (apply yields_pure rfl; intro w; first | (go_simp; with_reducible rfl) )); (try simp only [Act.put, sA, sB, sC]); (apply anyJ_take 6 (oi := Oper.mk _ _ _ _ _ _) rfl); (case hs | hf => kernel_rfl); (case hr | hc | hF => kernel_rfl); (case hQ => exact fun _ _ _ h => h); (case H => first | exact H ); (case hy => (first | (first | ((apply yields_loadVs0 (j := k) (v := .slice (some ⟨b2, 0, none⟩) 64 c2)); (case hs => exact sc _ rfl); (case hx | hw => rfl); (case hm => (first | (apply gives_own; (case h => (with_reducible repeat first | exact mH | apply mT)); (case hn => rfl)) )); (case hj => omega); (case hv => exact Hz2.out)) ) )); (try simp only [Act.put, sA, sB, sC]); (apply anyJ_take 10 (oi := Oper.mk _ _ _ _ _ _) rfl); (case hs | hf => kernel_rfl); (case hr | hc | hF => kernel_rfl); (case hQ => exact fun _ _ _ h => h); (case H => first | exact H ); (case hy => (first | ((apply yields_load); (case hs => exact sc _ rfl); (case hw | hx => rfl); (case hm => (with_reducible repeat first | exact mH | apply mT)); (case hv => rfl)) )); (try simp only [Act.put, sA, sB, sC]); (apply anyJ_takeP 12 (oi := Oper.mk _ _ _ _ _ _) rfl); (case hs | hf => kernel_rfl); (case hr | hF => kernel_rfl); (case hQ => exact fun _ _ _ h => h); (case H => first | exact .inr H ); (case hy => first | (apply yields_pure rfl; intro w; first | (go_simp; with_reducible rfl) )); (try simp only [Act.put, sA, sB, sC]); (apply anyJ_take 13 (oi := Oper.mk _ _ _ _ _ _) rfl); (case hs | hf => kernel_rfl); (case hr | hc | hF => kernel_rfl); (case hQ => exact fun _ _ _ h => h); (case H => first | exact H ); (case hy => (first | (first | ((apply yields_loadVs0 (j := k) (v := .slice x.1 64 x.2)); (case hs => exact sc _ rfl); (case hx | hw => rfl); (case hm => (first | (apply gives_own; (case h => (with_reducible repeat first | exact mH | apply mT)); (case hn => rfl)) )); (case hj => omega); (case hv => exact Hz.out))) )); (try simp only [Act.put, sA, sB, sC]); (apply anyJ_one 14 (o := Oper.mk _ _ _ _ _ _)); (case hr => kernel_rfl); (case hi | hw => rfl); intro K hK; (first | ((with_reducible apply opw_copyO H); (case hx | hy => rfl); (case hu => exact Tryz.underlying50); (case hs => kernel_rfl); (case hr => (apply HG.out; (with_reducible repeat first | exact mH | apply mT))); (case h1 => exact bvs_oneCell _); (case hm => (with_reducible repeat first | exact Upd.here)); clear H; (try clear W); intro W H; rw [Hcp.out] at H) ); (refine hK.out _ _ ?_ ?_); (· first | exact .inl rfl ); clear hK K; (try simp only [Act.put, sA, sB, sC]); (apply anyJ_done (by kernel_rfl)))
      rw [rwE_64 Hs64.out] at H
      have H3 := Hclose.out _ _ _ _ H
      rw [set_same Hx2.out] at H3
      rw [← zip_rh (t := s) (by rw [Hq2.out, cpK_len (by rw [Hn.out]; exact hk), Hn.out]) Hc.out Hs64.out, cpK_set Hs.out] at H3
      clear H
      go_wp2_with (first | go_big_skip )
      exact ⟨⟨k + 1, by omega, congrArg (Value.int .i64) (by omega), Reord.use H3 (by ((repeat (with_reducible apply Reord.cons; (case p => (with_reducible repeat first | exact Pull.here | apply Pull.there)))); repeat (with_reducible exact Reord.rest)))⟩, by simp only [intOf]; omega⟩
    · obtain rfl : k = n := by omega
      rw [show cpK su k = failK su wa kept 0 from by rw [← Hn.out, cpK_all]; rfl] at H
      go_wp2_with (first | ((with_reducible apply wpl_load H); (case hs => exact sc _ rfl); (case hw | hx => rfl); (case hm => (with_reducible repeat first | exact mH | apply mT)); (case hv => rfl)) )
      clear hlt
      generalize k = n at *
      go_loopw [8] (fun i wr => ∃ k : Nat, k ≤ mw ∧ i = .int .i64 k ∧ Holds wr (blk g2 [.slice (some ⟨gs2, 0, none⟩) n cs2, .slice aw2 0 cw2, .int .i64 (-1), .bool false] 74 ::
    ownE 50 1 (.slice (some ⟨gs2, 0, none⟩) n cs2) n (List.zipWith rh q2 (failK su wa kept k)) :: rwsE q2 (failK su wa kept k) :: ownE 103 2 (.slice aw2 0 cw2) 0 (wtc qw2 []) :: rwsE qw2 (([] : List (Nat × List UInt8)).map (·.2)) ::
    blk g [.slice (some ⟨gs, 0, none⟩) n cs, .slice aw mw cw, .int .i64 (clf lf), .bool bl] 74 ::
    ownE 50 1 (.slice (some ⟨gs, 0, none⟩) n cs) n (List.zipWith rh q su) :: rwsE q su :: ownE 103 2 (.slice aw mw cw) mw (wtc qw wa) :: rwsE qw (wa.map (·.2)) :: L0)) (fun i _ => mw - (intOf i).toNat)
      case atStart => exact ⟨0, by omega, rfl, H⟩
      case round =>
        clear H W
        obtain ⟨k, hk, rfl, H⟩ := hrel
        rename World => W
        by_cases hlt : k < mw
        · have hki : (k : Int) < mw := by omega
          obtain ⟨aw, rfl⟩ := own_some (H.all (ownE 103 2 (.slice aw mw cw) mw (wtc qw wa)) (by (with_reducible repeat first | exact mH | apply mT))) (by omega)
          obtain ⟨⟨N, s⟩, hx⟩ : ∃ x, wa[k]? = some x := ⟨_, List.getElem?_eq_getElem (by rw [Hwm.out]; exact hlt)⟩
          obtain ⟨x, hq⟩ : ∃ x, qw[k]? = some x := ⟨_, List.getElem?_eq_getElem (by rw [Hqw.out]; exact hlt)⟩
          have hNs := Ho.out.wl _ (List.mem_of_getElem? hx)
          simp only at hNs
          rw [Hn.out] at hNs
          have hN : N < n := hNs.1
          have hNi : (N : Int) < n := by omega
          have hk2 : k * 2 < mw * 2 := by omega
          have hk3 : k * 2 + 1 < mw * 2 := by omega
          have Hx := Lib.hid hx
          have Hq := Lib.hid hq
          have Hs64 := Lib.hid hNs.2
          clear hx hq hNs
          by_cases hkm : k < m
          · have hkmi : (k : Int) < m := by omega
            obtain ⟨y, hy⟩ : ∃ y, kept[k]? = some y := ⟨_, List.getElem?_eq_getElem (by rw [Hkl.out]; exact hkm)⟩
            have Hy : Hid ((kept.map Value.bool)[k]? = some (.bool y)) := Lib.hid (by rw [List.getElem?_map, hy]; rfl)
            have Hy0 := Lib.hid hy
            clear hy
            obtain ⟨kb, ko, rfl, -⟩ := (hr W H.tail.tail.tail.tail.tail.tail.tail.tail.tail.tail).at_ (by omega)
            cases y with
            | true =>
              obtain ⟨t, ht⟩ : ∃ t, (failK su wa kept k)[N]? = some t := ⟨_, List.getElem?_eq_getElem (by rw [failK_len, Hn.out]; exact hN)⟩
              have ht64 := failK_64 Ho.out.sl Ho.out.wl k t (List.mem_of_getElem? ht)
              obtain ⟨⟨B2, c2⟩, hx2⟩ : ∃ x, q2[N]? = some x := ⟨_, List.getElem?_eq_getElem (by rw [Hq2.out]; exact hN)⟩
              have H2 : Holds W (rwsE q2 (failK su wa kept k) :: blk g2 [.slice (some ⟨gs2, 0, none⟩) n cs2, .slice aw2 0 cw2, .int .i64 (-1), .bool false] 74 ::
    ownE 50 1 (.slice (some ⟨gs2, 0, none⟩) n cs2) n (List.zipWith rh q2 (failK su wa kept k)) :: ownE 103 2 (.slice aw2 0 cw2) 0 (wtc qw2 []) :: rwsE qw2 (([] : List (Nat × List UInt8)).map (·.2)) ::
    blk g [.slice (some ⟨gs, 0, none⟩) n cs, .slice (some ⟨aw, 0, none⟩) mw cw, .int .i64 (clf lf), .bool bl] 74 ::
    ownE 50 1 (.slice (some ⟨gs, 0, none⟩) n cs) n (List.zipWith rh q su) :: rwsE q su :: ownE 103 2 (.slice (some ⟨aw, 0, none⟩) mw cw) mw (wtc qw wa) :: rwsE qw (wa.map (·.2)) :: L0) := Reord.use H (by ((repeat (with_reducible apply Reord.cons; (case p => (with_reducible repeat first | exact Pull.here | apply Pull.there)))); repeat (with_reducible exact Reord.rest)))
              obtain ⟨R0, H3, hclose⟩ := rws_open H2 hx2 ht
              clear H H2
              have H4 := H3
              rw [show rwE (B2, c2) t = ownE 5 1 (.slice B2 64 c2) 64 (bvs t) from by unfold rwE rh; rw [ht64]] at H4
              clear H3
              obtain ⟨b2, rfl⟩ : ∃ b, B2 = some ⟨b, 0, none⟩ := own_some (m := 64) (H4.all _ List.mem_cons_self) (by omega)
              have H := H4
              clear H4
              obtain ⟨hnum, hrow⟩ := wtc_at k Hq.out Hx.out
              simp only at hnum hrow
              have Hnum := Lib.hid hnum
              have Hrow : Hid ((wtc qw wa)[k * 2 + 1]? = some (.slice x.1 64 x.2)) := Lib.hid (by rw [hrow]; unfold rh; rw [Hs64.out])
              have Hz2 : Hid ((List.zipWith rh q2 (failK su wa kept k))[N]? = some (.slice (some ⟨b2, 0, none⟩) 64 c2)) := Lib.hid (by rw [zip_at hx2 ht]; unfold rh; rw [ht64])
              have HG : Hid (∀ L, rwsE qw (wa.map (·.2)) ∈ L → Gives L fun w => Rd w 1 x.1 64 x.2 (bvs s)) := Lib.hid fun L h1 => by
                have := gives_rws h1 Hq.out (s := s) (by rw [List.getElem?_map, Hx.out]; rfl)
                rw [Hs64.out] at this
                exact this
              have Hcp := Lib.hid (copy_row (n := 0) ht64 Hs64.out)
              have Hx2 := Lib.hid hx2
              have Ht := Lib.hid ht
              have Ht64 := Lib.hid ht64
              have Hclose := Lib.hid hclose
              clear hnum hrow hx2 ht ht64 hclose
              go_wp2_with (first | ((with_reducible apply wpl_load H); (case hs => exact sc _ rfl); (case hw | hx => rfl); (case hm => (with_reducible repeat first | exact mH | apply mT)); (case hv => rfl)) | ((with_reducible apply wpl_loadV H); (case hs => exact sc _ rfl); (case hw | hx => rfl); (case hm => (first | (repeat (first | assumption | with_reducible apply Gives.cons)))); (case hj => assumption); (case hv => exact Hy.out)))
              ((refine wp_region_J [22] H (by kernel_rfl) ?_); clear H; (try clear W); intro W H; (apply anyJ_takeP 0 (oi := Oper.mk _ _ _ _ _ _) rfl); (case hs | hf => kernel_rfl); (case hr | hF => kernel_rfl); (case hQ => exact fun _ _ _ h => h); (case H => first | exact .inr H ); (case hy => first | (apply yields_pure rfl; intro w; first | (go_simp; with_reducible rfl) )); (try simp only [Act.put, sA, sB, sC]); (apply anyJ_takeP 1 (oi := Oper.mk _ _ _ _ _ _) rfl); (case hs | hf => kernel_rfl); (case hr | hF => kernel_rfl); (case hQ => exact fun _ _ _ h => h); (case H => first | exact .inr H ); (case hy => first | (apply yields_pure rfl; intro w; first | (go_simp; with_reducible rfl) )); (try simp only [Act.put, sA, sB, sC]); (apply anyJ_takeP 2 (oi := Oper.mk _ _ _ _ _ _) rfl); (case hs | hf => kernel_rfl); (case hr | hF => kernel_rfl); (case hQ => exact fun _ _ _ h => h); (case H => first | exact .inr H ); (case hy => first | (apply yields_pure rfl; intro w; first | (go_simp; with_reducible rfl) )); (try simp only [Act.put, sA, sB, sC]); (apply anyJ_takeP 4 (oi := Oper.mk _ _ _ _ _ _) rfl); (case hs | hf => kernel_rfl); (case hr | hF => kernel_rfl); (case hQ => exact fun _ _ _ h => h); (case H => first | exact .inr H ); (case hy => first | (apply yields_pure rfl; intro w; first | (go_simp; with_reducible rfl) )); (try simp only [Act.put, sA, sB, sC]); (apply anyJ_takeP 5 (oi := Oper.mk _ _ _ _ _ _) rfl); (case hs | hf => kernel_rfl); (case hr | hF => kernel_rfl); (case hQ => exact fun _ _ _ h => h); (case H => first | exact .inr H ); (case hy => first | (apply yields_pure rfl; intro w; first | (go_simp; with_reducible rfl) )); (try simp only [Act.put, sA, sB, sC]); (apply anyJ_takeP 6 (oi := Oper.mk _ _ _ _ _ _) rfl); (case hs | hf => kernel_rfl); (case hr | hF => kernel_rfl); (case hQ => exact fun _ _ _ h => h); (case H => first | exact .inr H ); (case hy => first | (apply yields_pure rfl; intro w; first | (go_simp; with_reducible rfl) )); (try simp only [Act.put, sA, sB, sC]); (apply anyJ_takeP 8 (oi := Oper.mk _ _ _ _ _ _) rfl); (case hs | hf => kernel_rfl); (case hr | hF => kernel_rfl); (case hQ => exact fun _ _ _ h => h); (case H => first | exact .inr H ); (case hy => first | (apply yields_pure rfl; intro w; first | (go_simp; with_reducible rfl) )); (try simp only [Act.put, sA, sB, sC]); (apply anyJ_takeP 14 (oi := Oper.mk _ _ _ _ _ _) rfl); (case hs | hf => kernel_rfl); (case hr | hF => kernel_rfl); (case hQ => exact fun _ _ _ h => h); (case H => first | exact .inr H ); (case hy => first | (apply yields_pure rfl; intro w; first | (go_simp; with_reducible rfl) )); (try simp only [Act.put, sA, sB, sC]); (apply anyJ_takeP 15 (oi := Oper.mk _ _ _ _ _ _) rfl); (case hs | hf => kernel_rfl); (case hr | hF => kernel_rfl); (case hQ => exact fun _ _ _ h => h); (case H => first | exact .inr H ); (case hy => first | (apply yields_pure rfl; intro w; first | (go_simp; with_reducible rfl) )); (try simp only [Act.put, sA, sB, sC]); (apply anyJ_takeP 16 (oi := Oper.mk _ _ _ _ _ _) rfl); (case hs | hf => kernel_rfl); (case hr | hF => kernel_rfl); (case hQ => exact fun _ _ _ h => h); (case H => first | exact .inr H ); (case hy => first | (apply yields_pure rfl; intro w; first | (go_simp; with_reducible rfl) )); (try simp only [Act.put, sA, sB, sC]); (apply anyJ_takeP 18 (oi := Oper.mk _ _ _ _ _ _) rfl); (case hs | hf => kernel_rfl); (case hr | hF => kernel_rfl); (case hQ => exact fun _ _ _ h => h); (case H => first | exact .inr H ); (case hy => first | (apply yields_pure rfl; intro w; first | (go_simp; with_reducible rfl) )); (try simp only [Act.put, sA, sB, sC]); (apply anyJ_take 3 (oi := Oper.mk _ _ _ _ _ _) rfl); (case hs | hf => kernel_rfl); (case hr | hc | hF => kernel_rfl); (case hQ => exact fun _ _ _ h => h); (case H => first | exact H ); (case hy => (first | ((apply yields_load); (case hs => exact sc _ rfl); (case hw | hx => rfl); (case hm => (with_reducible repeat first | exact mH | apply mT)); (case hv => rfl)) )); (try simp only [Act.put, sA, sB, sC]); (apply anyJ_take 7 (oi := Oper.mk _ _ _ _ _ _) rfl); (case hs | hf => kernel_rfl); (case hr | hc | hF => kernel_rfl); (case hQ => exact fun _ _ _ h => h); (case H => first | exact H ); (case hy => (first | ((apply yields_load); (case hs => exact sc _ rfl); (case hw | hx => rfl); (case hm => (with_reducible repeat first | exact mH | apply mT)); (case hv => rfl)) )); (try simp only [Act.put, sA, sB, sC]); (apply anyJ_takeP 9 (oi := Oper.mk _ _ _ _ _ _) rfl); (case hs | hf => kernel_rfl); (case hr | hF => kernel_rfl); (case hQ => exact fun _ _ _ h => h); (case H => first | exact .inr H ); (case hy => first | (apply yields_pure rfl; intro w; first | (go_simp; with_reducible rfl) )); (try simp only [Act.put, sA, sB, sC]); (apply anyJ_takeP 10 (oi := Oper.mk _ _ _ _ _ _) rfl); (case hs | hf => kernel_rfl); (case hr | hF => kernel_rfl); (case hQ => exact fun _ _ _ h => h); (case H => first | exact .inr H ); (case hy => first | (apply yields_pure rfl; intro w; first | (go_simp; with_reducible rfl) )); (try simp only [Act.put, sA, sB, sC]); (apply anyJ_take 11 (oi := Oper.mk _ _ _ _ _ _) rfl); (case hs | hf => kernel_rfl); (case hr | hc | hF => kernel_rfl); (case hQ => exact fun _ _ _ h => h); (case H => first | exact H ); (case hy => (first | (first | ((apply yields_loadVs0 (j := k * 2) (v := .int .i64 (N : Int))); (case hs => exact sc _ rfl); (case hx | hw => rfl); (case hm => (first | (apply gives_own; (case h => (with_reducible repeat first | exact mH | apply mT)); (case hn => rfl)) )); (case hj => assumption); (case hv => exact Hnum.out)) ) )); (try simp only [Act.put, sA, sB, sC]); (apply anyJ_takeP 12 (oi := Oper.mk _ _ _ _ _ _) rfl); (case hs | hf => kernel_rfl); (case hr | hF => kernel_rfl); (case hQ => exact fun _ _ _ h => h); (case H => first | exact .inr H ); (case hy => first | (apply yields_pure rfl; intro w; first | (go_simp; with_reducible rfl) )); (try simp only [Act.put, sA, sB, sC]); (apply anyJ_take 13 (oi := Oper.mk _ _ _ _ _ _) rfl); (case hs | hf => kernel_rfl); (case hr | hc | hF => kernel_rfl); (case hQ => exact fun _ _ _ h => h); (case H => first | exact H ); (case hy => (first | (first | ((apply yields_loadVs0 (j := N) (v := .slice (some ⟨b2, 0, none⟩) 64 c2)); (case hs => exact sc _ rfl); (case hx | hw => rfl); (case hm => (first | (apply gives_own; (case h => (with_reducible repeat first | exact mH | apply mT)); (case hn => rfl)) )); (case hj => omega); (case hv => exact Hz2.out))) )); (try simp only [Act.put, sA, sB, sC]); (apply anyJ_take 17 (oi := Oper.mk _ _ _ _ _ _) rfl); (case hs | hf => kernel_rfl); (case hr | hc | hF => kernel_rfl); (case hQ => exact fun _ _ _ h => h); (case H => first | exact H ); (case hy => (first | ((apply yields_load); (case hs => exact sc _ rfl); (case hw | hx => rfl); (case hm => (with_reducible repeat first | exact mH | apply mT)); (case hv => rfl)) )); (try simp only [Act.put, sA, sB, sC]); (apply anyJ_takeP 19 (oi := Oper.mk _ _ _ _ _ _) rfl); (case hs | hf => kernel_rfl); (case hr | hF => kernel_rfl); (case hQ => exact fun _ _ _ h => h); (case H => first | exact .inr H ); (case hy => first | (apply yields_pure rfl; intro w; first | (go_simp; with_reducible rfl) )); (try simp only [Act.put, sA, sB, sC]); (apply anyJ_takeP 20 (oi := Oper.mk _ _ _ _ _ _) rfl); (case hs | hf => kernel_rfl); (case hr | hF => kernel_rfl); (case hQ => exact fun _ _ _ h => h); (case H => first | exact .inr H ); (case hy => first | (apply yields_pure rfl; intro w; first | (go_simp; with_reducible rfl) )); (try simp only [Act.put, sA, sB, sC]); (apply anyJ_take 21 (oi := Oper.mk _ _ _ _ _ _) rfl); (case hs | hf => kernel_rfl); (case hr | hc | hF => kernel_rfl); (case hQ => exact fun _ _ _ h => h); (case H => first | exact H ); (case hy => (first | (first | ((apply yields_loadVs0 (j := k * 2 + 1) (v := .slice x.1 64 x.2)); (case hs => exact sc _ rfl); (case hx | hw => rfl); (case hm => (first | (apply gives_own; (case h => (with_reducible repeat first | exact mH | apply mT)); (case hn => rfl)) )); (case hj => assumption); (case hv => exact Hrow.out)) ) )); (try simp only [Act.put, sA, sB, sC]); (apply anyJ_one 22 (o := Oper.mk _ _ _ _ _ _)); (case hr => kernel_rfl); (case hi | hw => rfl); intro K hK; (first | ((with_reducible apply opw_copyO H); (case hx | hy => rfl); (case hu => exact Tryz.underlying50); (case hs => kernel_rfl); (case hr => (apply HG.out; (with_reducible repeat first | exact mH | apply mT))); (case h1 => exact bvs_oneCell _); (case hm => (with_reducible repeat first | exact Upd.here)); clear H; (try clear W); intro W H; rw [Hcp.out] at H) ); (refine hK.out _ _ ?_ ?_); (· first | exact .inl rfl ); clear hK K; (try simp only [Act.put, sA, sB, sC]); (apply anyJ_done (by kernel_rfl)))
              rw [rwE_64 Hs64.out] at H
              have H3 := Hclose.out _ _ _ _ H
              rw [set_same Hx2.out] at H3
              rw [← zip_rh (t := s) (by rw [Hq2.out, failK_len, Hn.out]) Ht.out (by rw [Hs64.out, Ht64.out]), show (failK su wa kept k).set N s = failK su wa kept (k + 1) from by rw [failK, Hx.out, Hy0.out]] at H3
              clear H
              go_wp2_with (first | go_big_skip )
              exact ⟨⟨k + 1, by omega, congrArg (Value.int .i64) (by omega), Reord.use H3 (by ((repeat (with_reducible apply Reord.cons; (case p => (with_reducible repeat first | exact Pull.here | apply Pull.there)))); repeat (with_reducible exact Reord.rest)))⟩, by simp only [intOf]; omega⟩
            | false =>
              go_wp2_with (first | ((with_reducible apply wpl_load H); (case hs => exact sc _ rfl); (case hw | hx => rfl); (case hm => (with_reducible repeat first | exact mH | apply mT)); (case hv => rfl)) | ((with_reducible apply wpl_loadV H); (case hs => exact sc _ rfl); (case hw | hx => rfl); (case hm => (first | (repeat (first | assumption | with_reducible apply Gives.cons)))); (case hj => assumption); (case hv => exact Hy.out)))
              rw [show failK su wa kept k = failK su wa kept (k + 1) from by rw [failK, Hx.out, Hy0.out]] at H
              exact ⟨⟨k + 1, by omega, congrArg (Value.int .i64) (by omega), H⟩, by simp only [intOf]; omega⟩
          · have hkmi : ¬ (k : Int) < m := by omega
            have Hy0 : Hid (kept[k]? = none) := Lib.hid (List.getElem?_eq_none (by rw [Hkl.out]; omega))
            go_wp2_with (first | ((with_reducible apply wpl_load H); (case hs => exact sc _ rfl); (case hw | hx => rfl); (case hm => (with_reducible repeat first | exact mH | apply mT)); (case hv => rfl)) )
            rw [show failK su wa kept k = failK su wa kept (k + 1) from by rw [failK, Hx.out, Hy0.out]] at H
            exact ⟨⟨k + 1, by omega, congrArg (Value.int .i64) (by omega), H⟩, by simp only [intOf]; omega⟩
        · obtain rfl : k = mw := by omega
          go_wp2_with (first | ((with_reducible apply wpl_load H); (case hs => exact sc _ rfl); (case hw | hx => rfl); (case hm => (with_reducible repeat first | exact mH | apply mT)); (case hv => rfl)) )
          have ho := Ho.out
          have e : (failK su wa kept k).length = n := by rw [failK_len]; exact Hn.out
          have H2 := rd_shut (g := g2) ⟨gs2, cs2, q2, aw2, cw2, qw2⟩ (dnew (failK su wa kept k)) (L := blk g [.slice (some ⟨gs, 0, none⟩) n cs, .slice aw k cw, .int .i64 (clf lf), .bool bl] 74 ::
            ownE 50 1 (.slice (some ⟨gs, 0, none⟩) n cs) n (List.zipWith rh q su) :: rwsE q su :: ownE 103 2 (.slice aw k cw) k (wtc qw wa) :: rwsE qw (wa.map (·.2)) :: L0) (by
            simp only [dnew, e, List.length_nil]
            rw [show clf (-1) = -1 from rfl]
            exact H) ⟨by simp only [dnew, e]; exact h0, by simp only [dnew, e]; exact h1, rfl, failK_64 ho.sl ho.wl k, (fun x hx => by cases hx), by simp [dnew], by simp [dnew]⟩
          have H3 : Holds W (blk g [.slice (some ⟨gs, 0, none⟩) n cs, .slice aw k cw, .int .i64 (clf lf), .bool bl] 74 ::
            ownE 50 1 (.slice (some ⟨gs, 0, none⟩) n cs) n (List.zipWith rh q su) :: rwsE q su :: ownE 103 2 (.slice aw k cw) k (wtc qw wa) :: rwsE qw (wa.map (·.2)) :: rdE g2 ⟨gs2, cs2, q2, aw2, cw2, qw2⟩ (dnew (failK su wa kept k)) :: L0) := Reord.use H2 (by ((repeat (with_reducible apply Reord.cons; (case p => (with_reducible repeat first | exact Pull.here | apply Pull.there)))); repeat (with_reducible exact Reord.rest)))
          have H4 := rd_shut (g := g) ⟨gs, cs, q, aw, cw, qw⟩ ⟨su, no, wa, lf, bl⟩ (by
            simp only [Hn.out, Hwm.out]
            exact H3) ho
          exact HK.out _ _ _ (Reord.use H4 (by ((repeat (with_reducible apply Reord.cons; (case p => (with_reducible repeat first | exact Pull.here | apply Pull.there)))); repeat (with_reducible exact Reord.rest))))
end
end Go.Proofs.YtdnioigcgggdbaaGreatDoor
