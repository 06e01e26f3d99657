/-
  The reference's disk: New, sync, Sync.
-/
import Derived.Test.YtdnioigcgggdbaaGreatDoorMae
set_option linter.unusedVariables false
set_option linter.unusedSimpArgs false
namespace Go.Proofs.YtdnioigcgggdbaaGreatDoor
open Go.RowKit

theorem opw_make1 {P : Program} {a : Act} {w : World} {K : Act → World → Prop} {Q : Exit → Act → World → Prop} {L : List Ent} {dst : Option Tmp} {l cp : Operand} {t : TypeId} {ty : TypeId} {pos : String} {after : Array Edge} {gd : Option (Nat × Bool)} (H : Holds w L) (n c : Nat)
    {e : TypeId} {z : Value} {bytes : Nat} (ht : P.underlying t = some (.slice e)) (hinfo : (P.info? e).map (fun i => (i.zero, i.size, i.bytes)) = some (some z, 1, bytes)) (hz1 : z.cells = #[z])
    {N C : Int} (hl : a.eval l = .int .i64 N) (hN : N = (n : Int)) (hc : a.eval cp = .int .i64 C) (hC : C = (c : Int)) (hnc : n ≤ c) (hb : bytes * c ≤ 281474976710656) (h63 : c ≤ 9223372036854775807) (hmx : c ≤ maxLen)
    (h : ∀ b w', Holds w' (ownE e 1 (.slice (some ⟨b, 0, none⟩) n c) n (List.replicate n z) :: L) → K (a.put dst (.slice (some ⟨b, 0, none⟩) n c)) w') :
    Oper.wp P ⟨dst, .makeSlice t l cp, ty, pos, after, gd⟩ a w K Q := by
  subst hN hC
  have hr := run_mkR (P := P) ht hinfo n c hnc hb h63 w
  have hZ : (madeCells z.cells (c * 1)) = (List.replicate c z).toArray := by
    apply Array.ext'
    rw [hz1]
    rw [show (#[z] : Array Value) = (List.replicate 1 z).toArray from rfl]
    simp [madeCells, Nat.mod_one]
    rw [show (List.map (fun _ => z) (List.range c)) = List.replicate c z from by apply List.ext_getElem <;> simp]
  refine opw_run (v := .slice (some ⟨w.heap.size, 0, none⟩) n c) (w' := w.alloc (.cells (List.replicate c z).toArray e)) ?_ (h w.heap.size _ (H.new_own ((Ext.refl w).alloc _) ?_))
  · rw [hZ] at hr
    unfold execOp
    simp only [hl, hc, Sem.run_bind, hr, Result.andThen_ok, Sem.run_pure]
  · refine ⟨by simp, .inr ⟨w.heap.size, c, _, rfl, Nat.le_refl _, heap_alloc_new w _, hnc, hmx, by simp, ?_⟩⟩
    simp [Nat.min_eq_left hnc]
theorem zrow : List.replicate 64 (Value.int .u8 0) = bvs zsec := by unfold zsec bvs; rw [List.map_replicate]; rfl
section
variable {W : World} {L L' L0 : List Ent} {R : Ending → World → Prop} {g : Nat} {v : Rv} {d : Dd}
set_option maxRecDepth 100000 in
set_option maxHeartbeats 1000000 in
theorem rnew_no (n : Int) (hn : n < 1 ∨ 4096 < n) (H : Holds W L) (k : ∀ w', Holds w' L → R (.returned (.tuple #[.pointer none, .int .i64 1])) w') : Calls Tryz.prog 6 #[.int .i64 n] W R := by
  have HK := Lib.hid k; clear k
  rcases hn with hn | hn
  · go_enter Tryz.func6, Tryz.ntmps6
    go_wp2_with (first | go_big_skip )
    exact HK.out _ H
  · have h2 : ¬ n < 1 := by omega
    go_enter Tryz.func6, Tryz.ntmps6
    go_wp2_with (first | go_big_skip )
    exact HK.out _ H
set_option maxRecDepth 100000 in
set_option maxHeartbeats 1000000 in
theorem rnew_k (n : Nat) (h0 : 0 < n) (h1 : n ≤ 4096) (H : Holds W L) (k : ∀ g v w', Holds w' (rdE g v (dnew (List.replicate n zsec)) :: L) → R (.returned (.tuple #[.pointer (some ⟨g, 0, none⟩), .int .i64 0])) w') :
    Calls Tryz.prog 6 #[.int .i64 n] W R := by
  have HK := Lib.hid k; clear k
  have h2 : ¬ (n : Int) < 1 := by omega
  have h3 : ¬ (4096 : Int) < n := by omega
  go_enter Tryz.func6, Tryz.ntmps6
  go_wp2_with (first | go_big_skip )
  replace H := H.alloc [.slice none 0 0, .slice none 0 0, .int .i64 (-1), .bool false] 74
  generalize W.heap.size = g at H ⊢
  generalize W.alloc _ = W' at H ⊢
  go_loopw [5] (fun i wr => ∃ (k c : Nat) (A : Option Addr) (q : List (Option Addr × Nat)), k ≤ n ∧ i = .int .i64 k ∧ Holds wr (blk g [.slice A k c, .slice none 0 0, .int .i64 (-1), .bool false] 74 :: ownE 50 1 (.slice A k c) k (List.zipWith rh q (List.replicate k zsec)) :: rwsE q (List.replicate k zsec) :: L)) (fun i _ => n - (intOf i).toNat)
  case atStart => exact ⟨0, 0, none, [], by omega, rfl, Reord.use (rws_new (H.add_nil 50 1)) (by simp only [List.replicate_zero, List.zipWith_nil_left]; ((repeat (with_reducible apply Reord.cons; (case p => (with_reducible repeat first | exact Pull.here | apply Pull.there)))); repeat (with_reducible exact Reord.rest)))⟩
  case round =>
    clear H W'
    obtain ⟨k, c, A, q, hk, rfl, H⟩ := hrel
    rename World => W
    by_cases hlt : k < n
    · have hki : (k : Int) < n := by omega
      go_wp2_with (first | go_big_skip )
      ((refine wp_region_J [7, 10] H (by kernel_rfl) ?_); clear H; (try clear W); intro W H; (apply anyJ_takeP 0 (oi := Oper.mk _ _ _ _ _ _) rfl); (case hs | hf => kernel_rfl); (case hr | hF => kernel_rfl); (case hQ => exact fun _ _ _ h => h); (case H => first | exact .inr H ); (case hy => first | (apply yields_pure rfl; intro w; first | (go_simp; with_reducible rfl) )); (try simp only [Act.put, sA, sB, sC]); (apply anyJ_takeP 1 (oi := Oper.mk _ _ _ _ _ _) rfl); (case hs | hf => kernel_rfl); (case hr | hF => kernel_rfl); (case hQ => exact fun _ _ _ h => h); (case H => first | exact .inr H ); (case hy => first | (apply yields_pure rfl; intro w; first | (go_simp; with_reducible rfl) )); (try simp only [Act.put, sA, sB, sC]); (apply anyJ_takeP 2 (oi := Oper.mk _ _ _ _ _ _) rfl); (case hs | hf => kernel_rfl); (case hr | hF => kernel_rfl); (case hQ => exact fun _ _ _ h => h); (case H => first | exact .inr H ); (case hy => first | (apply yields_pure rfl; intro w; first | (go_simp; with_reducible rfl) )); (try simp only [Act.put, sA, sB, sC]); (apply anyJ_takeP 3 (oi := Oper.mk _ _ _ _ _ _) rfl); (case hs | hf => kernel_rfl); (case hr | hF => kernel_rfl); (case hQ => exact fun _ _ _ h => h); (case H => first | exact .inr H ); (case hy => first | (apply yields_pure rfl; intro w; first | (go_simp; with_reducible rfl) )); (try simp only [Act.put, sA, sB, sC]); (apply anyJ_take 4 (oi := Oper.mk _ _ _ _ _ _) rfl); (case hs | hf => kernel_rfl); (case hr | hc | hF => kernel_rfl); (case hQ => exact fun _ _ _ h => h); (case H => first | exact H ); (case hy => (first | ((apply yields_load); (case hs => exact sc _ rfl); (case hw | hx => rfl); (case hm => (with_reducible repeat first | exact mH)); (case hv => rfl)) )); (try simp only [Act.put, sA, sB, sC]); (apply anyJ_one 5 (o := Oper.mk _ _ _ _ _ _)); (case hr => kernel_rfl); (case hi | hw => rfl); intro K hK; (first | (first | ((with_reducible apply opw_make1 H 64 64); (case ht => exact Tryz.underlying50); (case hinfo => exact inf_5); (case hz1 | hl => rfl); (case hN | hc | hC => rfl); (case hnc => omega); (case hb | h63 | hmx => decide); clear H; (try clear W); intro b W H) ) ); (refine hK.out _ _ ?_ ?_); (· first | exact .inr (Reord.use H (by ((repeat (with_reducible apply Reord.cons; (case p => (with_reducible repeat first | exact Pull.here | apply Pull.there)))); repeat (first | with_reducible exact Reord.rest | with_reducible apply Reord.drop))))); clear hK K; (try simp only [Act.put, sA, sB, sC]); (apply anyJ_one 6 (o := Oper.mk _ _ _ _ _ _)); (case hr => kernel_rfl); (case hi | hw => rfl); intro K hK; (first | (first | ((with_reducible apply opw_slice1 (vs := [.slice (some ⟨b, 0, none⟩) 64 64]) H); (case hx => rfl); (case ht => exact Tryz.underlying71); (case hinfo => exact inf_50); (case hzs | hl => rfl); (case h0 => decide); (case h24 => exact Nat.le_of_ble_eq_true rfl); clear H; (try clear W); intro q2 W H)) ); (refine hK.out _ _ ?_ ?_); (· first | exact .inr (Reord.use H (by ((repeat (with_reducible apply Reord.cons; (case p => (with_reducible repeat first | exact Pull.here | apply Pull.there)))); repeat (first | with_reducible exact Reord.rest | with_reducible apply Reord.drop))))); clear hK K; (try simp only [Act.put, sA, sB, sC]); (apply anyJ_one 7 (o := Oper.mk _ _ _ _ _ _)); (case hr => kernel_rfl); (case hi | hw => rfl); intro K hK; (first | ((with_reducible apply opw_app H); (case ht => (first | exact Tryz.underlying71 )); (case hinfo => (first | exact inf_50 )); (case hs | hx => rfl); (case hm => (with_reducible repeat first | exact Pull.here | apply Pull.there)); (case hzs => rfl); (case hsz => decide); (case hr => (first | (apply gives_blk; (case h => (with_reducible repeat first | exact mH)); (case hn => rfl); (case hl => omega)) )); (case h1 => first | (intro u hu; obtain rfl := List.mem_singleton.1 hu; rfl)); (case h63 => (simp only [maxLen]; omega)); (case hbytes => omega); clear H; (try clear W); intro A1 n1 c1 W hn H hle1 htop1; obtain rfl := hn.out; clear hn)); (refine hK.out _ _ ?_ ?_); (· first | exact .inl rfl ); clear hK K; (try simp only [Act.put, sA, sB, sC]); (apply anyJ_takeP 8 (oi := Oper.mk _ _ _ _ _ _) rfl); (case hs | hf => kernel_rfl); (case hr | hF => kernel_rfl); (case hQ => exact fun _ _ _ h => h); (case H => first | exact .inl rfl ); (case hy => first | (apply yields_pure rfl; intro w; first | (go_simp; with_reducible rfl) )); (try simp only [Act.put, sA, sB, sC]); (apply anyJ_takeP 9 (oi := Oper.mk _ _ _ _ _ _) rfl); (case hs | hf => kernel_rfl); (case hr | hF => kernel_rfl); (case hQ => exact fun _ _ _ h => h); (case H => first | exact .inl rfl ); (case hy => first | (apply yields_pure rfl; intro w; first | (go_simp; with_reducible rfl) )); (try simp only [Act.put, sA, sB, sC]); (apply anyJ_one 10 (o := Oper.mk _ _ _ _ _ _)); (case hr => kernel_rfl); (case hi | hw => rfl); intro K hK; (first | ((with_reducible apply opw_store1 H); (case hs => exact sz_sc _ rfl); (case hx => rfl); (case hy => (first | exact (rfl : _ = Value.slice _ _ _) )); (case hm => (with_reducible repeat first | exact Upd.here | apply Upd.there)); (case h1 => rfl); (case hk => exact Nat.le_of_ble_eq_true rfl); clear H; (try clear W); intro W H; simp only [setL, List.set_cons_zero, List.set_cons_succ] at H) ); (refine hK.out _ _ ?_ ?_); (· first | exact .inl rfl ); clear hK K; (try simp only [Act.put, sA, sB, sC]); (apply anyJ_done (by kernel_rfl)))
      rw [zrow] at H
      go_wp2_with (first | go_big_skip )
      have hql := rws_len (q := q) (ls := List.replicate k zsec) H (by (with_reducible repeat first | exact mH | assumption | apply mT))
      rw [rwE_64 (by rfl)] at H
      have H2 : Holds W (rwE (some ⟨b, 0, none⟩, 64) zsec :: rwsE q (List.replicate k zsec) :: blk g [.slice A1 (k + 1) c1, .slice none 0 0, .int .i64 (-1), .bool false] 74 :: ownE 50 1 (.slice A1 (k + 1) c1) (k + 1) (List.zipWith rh q (List.replicate k zsec) ++ [.slice (some ⟨b, 0, none⟩) 64 64]) :: L) := Reord.use H (by ((repeat (with_reducible apply Reord.cons; (case p => (with_reducible repeat first | exact Pull.here | apply Pull.there)))); repeat (first | with_reducible exact Reord.rest | with_reducible apply Reord.drop)))
      have H3 := rws_add H2
      rw [show List.replicate k zsec ++ [zsec] = List.replicate (k + 1) zsec from (List.replicate_succ' ..).symm] at H3
      refine ⟨⟨k + 1, c1, A1, q ++ [(some ⟨b, 0, none⟩, 64)], by omega, congrArg (Value.int .i64) (by omega), ?_⟩, by simp only [intOf]; omega⟩
      have e : List.zipWith rh (q ++ [(some ⟨b, 0, none⟩, 64)]) (List.replicate (k + 1) zsec) = List.zipWith rh q (List.replicate k zsec) ++ [.slice (some ⟨b, 0, none⟩) 64 64] := by
        rw [List.replicate_succ', List.zipWith_append hql]; rfl
      rw [e]
      exact Reord.use H3 (by ((repeat (with_reducible apply Reord.cons; (case p => (with_reducible repeat first | exact Pull.here | apply Pull.there)))); repeat (with_reducible exact Reord.rest)))
    · obtain rfl : k = n := by omega
      go_wp2_with (first | go_big_skip )
      obtain ⟨gs, rfl⟩ := own_some (H.all (ownE 50 1 (.slice A k c) k (List.zipWith rh q (List.replicate k zsec))) (by (with_reducible repeat first | exact mH | apply mT))) h0
      have e : (dnew (List.replicate k zsec)).su.length = k := List.length_replicate
      refine HK.out g ⟨gs, c, q, none, 0, []⟩ _ (rd_shut _ _ ?_ ⟨by rw [e]; exact h0, by rw [e]; exact h1, rfl, fun s hs => by rw [List.eq_of_mem_replicate hs]; rfl, by simp [dnew], by simp [dnew], by simp [dnew]⟩)
      rw [e]
      exact Reord.use (rws_new (H.add_nil 103 2)) (by simp only [dnew, List.map_nil, List.length_nil, wtc]; rw [show clf (-1) = -1 from rfl]; ((repeat (with_reducible apply Reord.cons; (case p => (with_reducible repeat first | exact Pull.here | apply Pull.there)))); repeat (with_reducible exact Reord.rest)))
set_option maxRecDepth 100000 in
set_option maxHeartbeats 1000000 in
/-- nothing waits; the fuse's cells stay. -/
theorem rsync0_k (H : Holds W L) (hm : Pull (rdE g v d) L L0) (k : ∀ v' w', Holds w' (rdE g v' d.settle :: L0) → R (.returned (.tuple #[])) w') :
    Calls Tryz.prog 53 #[.pointer (some ⟨g, 0, none⟩)] W R := by
  have H2 := rd_open (H.pull hm); clear H; obtain ⟨ho, H⟩ := H2
  clear hm
  have HK := Lib.hid k; clear k
  obtain ⟨gs, cs, q, aw, cw, qw⟩ := v
  obtain ⟨su, no, wa, lf, bl⟩ := d
  have Ho := Lib.hid ho
  have h0 := ho.n0
  simp only at H h0
  have hql := rws_len (q := q) (ls := su) H (by (with_reducible repeat first | exact mH | assumption | apply mT))
  have hqw := rws_len (q := qw) (ls := wa.map (·.2)) H (by (with_reducible repeat first | exact mH | assumption | apply mT))
  rw [List.length_map] at hqw
  have Hql := Lib.hid hql
  have Hqw := Lib.hid hqw
  generalize hn : su.length = n at *
  have Hn := Lib.hid hn
  generalize hm : wa.length = m at *
  have Hm := Lib.hid hm
  clear ho hql hqw hn hm
  go_enter Tryz.func53, Tryz.ntmps53
  go_wp2_with (first | go_big_skip )
  go_loopw [2] (fun i wr => ∃ (k : Nat) (q : List (Option Addr × Nat)), k ≤ m ∧ i = .int .i64 k ∧ Holds wr (blk g [.slice (some ⟨gs, 0, none⟩) n cs, .slice aw m cw, .int .i64 (clf lf), .bool bl] 74 ::
    ownE 50 1 (.slice (some ⟨gs, 0, none⟩) n cs) n (List.zipWith rh q (lay su (wa.take k))) :: rwsE q (lay su (wa.take k)) :: ownE 103 2 (.slice aw m cw) m (wtc qw wa) :: rwsE (qw.drop k) ((wa.map (·.2)).drop k) :: L0)) (fun i _ => m - (intOf i).toNat)
  case atStart => exact ⟨0, q, by omega, rfl, H⟩
  case round =>
    clear H W q Hql
    obtain ⟨k, q, hk, rfl, H⟩ := hrel
    rename World => W
    by_cases hlt : k < m
    · have hki : (k : Int) < m := by omega
      have hcw := own_le (H.all (ownE 103 2 (.slice aw m cw) m (wtc qw wa)) (by (with_reducible repeat first | exact mH | assumption | apply mT)))
      have hm63 : m ≤ 9223372036854775807 := Nat.le_trans hcw.1 hcw.2
      clear hcw
      obtain ⟨aw, rfl⟩ := own_some (H.all (ownE 103 2 (.slice aw m cw) m (wtc qw wa)) (by (with_reducible repeat first | exact mH | assumption | apply mT))) (by omega)
      obtain ⟨⟨N, s⟩, hx⟩ : ∃ x, wa[k]? = some x := ⟨_, List.getElem?_eq_getElem (by rw [Hm.out]; exact hlt)⟩
      obtain ⟨x, hq⟩ : ∃ x, qw[k]? = some x := ⟨_, List.getElem?_eq_getElem (by rw [Hqw.out]; exact hlt)⟩
      obtain ⟨hnum, hrow⟩ := wtc_at k hq hx
      have hNs := Ho.out.wl _ (List.mem_of_getElem? hx)
      simp only at hNs hnum hrow
      rw [Hn.out] at hNs
      have hN : N < n := hNs.1
      have hNi : (N : Int) < n := by omega
      have hk2 : k * 2 < m * 2 := by omega
      have hk3 : k * 2 + 1 < m * 2 := by omega
      have hql := rws_len (q := q) (ls := lay su (wa.take k)) H (by (with_reducible repeat first | exact mH | assumption | apply mT))
      have Hnum := Lib.hid hnum
      have Hrow := Lib.hid hrow
      have HkS : Hid (N + 1 ≤ (List.zipWith rh q (lay su (wa.take k))).length) := Lib.hid (by rw [List.length_zipWith, hql, lay_len, Hn.out]; omega)
      have Hx := Lib.hid hx
      have Hq := Lib.hid hq
      have Hql := Lib.hid hql
      clear hnum hrow hx hq hql hNs
      go_wp2_with (first | ((with_reducible apply wpl_load H); (case hs => exact sc _ rfl); (case hw | hx => rfl); (case hm => (with_reducible repeat first | exact mH)); (case hv => rfl)) )
      ((refine wp_region_J [21] H (by kernel_rfl) ?_); clear H; (try clear W); intro W H; (apply anyJ_takeP 0 (oi := Oper.mk _ _ _ _ _ _) rfl); (case hs | hf => kernel_rfl); (case hr | hF => kernel_rfl); (case hQ => exact fun _ _ _ h => h); (case H => first | exact .inr H ); (case hy => first | (apply yields_pure rfl; intro w; first | (go_simp; with_reducible rfl) )); (try simp only [Act.put, sA, sB, sC]); (apply anyJ_takeP 1 (oi := Oper.mk _ _ _ _ _ _) rfl); (case hs | hf => kernel_rfl); (case hr | hF => kernel_rfl); (case hQ => exact fun _ _ _ h => h); (case H => first | exact .inr H ); (case hy => first | (apply yields_pure rfl; intro w; first | (go_simp; with_reducible rfl) )); (try simp only [Act.put, sA, sB, sC]); (apply anyJ_takeP 2 (oi := Oper.mk _ _ _ _ _ _) rfl); (case hs | hf => kernel_rfl); (case hr | hF => kernel_rfl); (case hQ => exact fun _ _ _ h => h); (case H => first | exact .inr H ); (case hy => first | (apply yields_pure rfl; intro w; first | (go_simp; with_reducible rfl) )); (try simp only [Act.put, sA, sB, sC]); (apply anyJ_takeP 4 (oi := Oper.mk _ _ _ _ _ _) rfl); (case hs | hf => kernel_rfl); (case hr | hF => kernel_rfl); (case hQ => exact fun _ _ _ h => h); (case H => first | exact .inr H ); (case hy => first | (apply yields_pure rfl; intro w; first | (go_simp; with_reducible rfl) )); (try simp only [Act.put, sA, sB, sC]); (apply anyJ_takeP 5 (oi := Oper.mk _ _ _ _ _ _) rfl); (case hs | hf => kernel_rfl); (case hr | hF => kernel_rfl); (case hQ => exact fun _ _ _ h => h); (case H => first | exact .inr H ); (case hy => first | (apply yields_pure rfl; intro w; first | (go_simp; with_reducible rfl) )); (try simp only [Act.put, sA, sB, sC]); (apply anyJ_takeP 6 (oi := Oper.mk _ _ _ _ _ _) rfl); (case hs | hf => kernel_rfl); (case hr | hF => kernel_rfl); (case hQ => exact fun _ _ _ h => h); (case H => first | exact .inr H ); (case hy => first | (apply yields_pure rfl; intro w; first | (go_simp; with_reducible rfl) )); (try simp only [Act.put, sA, sB, sC]); (apply anyJ_takeP 8 (oi := Oper.mk _ _ _ _ _ _) rfl); (case hs | hf => kernel_rfl); (case hr | hF => kernel_rfl); (case hQ => exact fun _ _ _ h => h); (case H => first | exact .inr H ); (case hy => first | (apply yields_pure rfl; intro w; first | (go_simp; with_reducible rfl) )); (try simp only [Act.put, sA, sB, sC]); (apply anyJ_takeP 12 (oi := Oper.mk _ _ _ _ _ _) rfl); (case hs | hf => kernel_rfl); (case hr | hF => kernel_rfl); (case hQ => exact fun _ _ _ h => h); (case H => first | exact .inr H ); (case hy => first | (apply yields_pure rfl; intro w; first | (go_simp; with_reducible rfl) )); (try simp only [Act.put, sA, sB, sC]); (apply anyJ_takeP 13 (oi := Oper.mk _ _ _ _ _ _) rfl); (case hs | hf => kernel_rfl); (case hr | hF => kernel_rfl); (case hQ => exact fun _ _ _ h => h); (case H => first | exact .inr H ); (case hy => first | (apply yields_pure rfl; intro w; first | (go_simp; with_reducible rfl) )); (try simp only [Act.put, sA, sB, sC]); (apply anyJ_takeP 14 (oi := Oper.mk _ _ _ _ _ _) rfl); (case hs | hf => kernel_rfl); (case hr | hF => kernel_rfl); (case hQ => exact fun _ _ _ h => h); (case H => first | exact .inr H ); (case hy => first | (apply yields_pure rfl; intro w; first | (go_simp; with_reducible rfl) )); (try simp only [Act.put, sA, sB, sC]); (apply anyJ_takeP 16 (oi := Oper.mk _ _ _ _ _ _) rfl); (case hs | hf => kernel_rfl); (case hr | hF => kernel_rfl); (case hQ => exact fun _ _ _ h => h); (case H => first | exact .inr H ); (case hy => first | (apply yields_pure rfl; intro w; first | (go_simp; with_reducible rfl) )); (try simp only [Act.put, sA, sB, sC]); (apply anyJ_take 3 (oi := Oper.mk _ _ _ _ _ _) rfl); (case hs | hf => kernel_rfl); (case hr | hc | hF => kernel_rfl); (case hQ => exact fun _ _ _ h => h); (case H => first | exact H ); (case hy => (first | ((apply yields_load); (case hs => exact sc _ rfl); (case hw | hx => rfl); (case hm => (with_reducible repeat first | exact mH)); (case hv => rfl)) )); (try simp only [Act.put, sA, sB, sC]); (apply anyJ_take 7 (oi := Oper.mk _ _ _ _ _ _) rfl); (case hs | hf => kernel_rfl); (case hr | hc | hF => kernel_rfl); (case hQ => exact fun _ _ _ h => h); (case H => first | exact H ); (case hy => (first | ((apply yields_load); (case hs => exact sc _ rfl); (case hw | hx => rfl); (case hm => (with_reducible repeat first | exact mH)); (case hv => rfl)) )); (try simp only [Act.put, sA, sB, sC]); (apply anyJ_takeP 9 (oi := Oper.mk _ _ _ _ _ _) rfl); (case hs | hf => kernel_rfl); (case hr | hF => kernel_rfl); (case hQ => exact fun _ _ _ h => h); (case H => first | exact .inr H ); (case hy => first | (apply yields_pure rfl; intro w; first | (go_simp; with_reducible rfl) )); (try simp only [Act.put, sA, sB, sC]); (apply anyJ_takeP 10 (oi := Oper.mk _ _ _ _ _ _) rfl); (case hs | hf => kernel_rfl); (case hr | hF => kernel_rfl); (case hQ => exact fun _ _ _ h => h); (case H => first | exact .inr H ); (case hy => first | (apply yields_pure rfl; intro w; first | (go_simp; with_reducible rfl) )); (try simp only [Act.put, sA, sB, sC]); (apply anyJ_take 11 (oi := Oper.mk _ _ _ _ _ _) rfl); (case hs | hf => kernel_rfl); (case hr | hc | hF => kernel_rfl); (case hQ => exact fun _ _ _ h => h); (case H => first | exact H ); (case hy => (first | (first | ((apply yields_loadVs0 (j := k * 2) (v := .int .i64 (N : Int))); (case hs => exact sc _ rfl); (case hx | hw => rfl); (case hm => (first | (apply gives_own; (case h => (with_reducible repeat first | exact mH | apply mT)); (case hn => rfl)) )); (case hj => assumption); (case hv => exact Hnum.out))) )); (try simp only [Act.put, sA, sB, sC]); (apply anyJ_take 15 (oi := Oper.mk _ _ _ _ _ _) rfl); (case hs | hf => kernel_rfl); (case hr | hc | hF => kernel_rfl); (case hQ => exact fun _ _ _ h => h); (case H => first | exact H ); (case hy => (first | ((apply yields_load); (case hs => exact sc _ rfl); (case hw | hx => rfl); (case hm => (with_reducible repeat first | exact mH)); (case hv => rfl)) )); (try simp only [Act.put, sA, sB, sC]); (apply anyJ_takeP 17 (oi := Oper.mk _ _ _ _ _ _) rfl); (case hs | hf => kernel_rfl); (case hr | hF => kernel_rfl); (case hQ => exact fun _ _ _ h => h); (case H => first | exact .inr H ); (case hy => first | (apply yields_pure rfl; intro w; first | (go_simp; with_reducible rfl) )); (try simp only [Act.put, sA, sB, sC]); (apply anyJ_takeP 18 (oi := Oper.mk _ _ _ _ _ _) rfl); (case hs | hf => kernel_rfl); (case hr | hF => kernel_rfl); (case hQ => exact fun _ _ _ h => h); (case H => first | exact .inr H ); (case hy => first | (apply yields_pure rfl; intro w; first | (go_simp; with_reducible rfl) )); (try simp only [Act.put, sA, sB, sC]); (apply anyJ_take 19 (oi := Oper.mk _ _ _ _ _ _) rfl); (case hs | hf => kernel_rfl); (case hr | hc | hF => kernel_rfl); (case hQ => exact fun _ _ _ h => h); (case H => first | exact H ); (case hy => (first | (first | ((apply yields_loadVs0 (j := k * 2 + 1) (v := rh x s)); (case hs => exact sc _ rfl); (case hx | hw => rfl); (case hm => (first | (apply gives_own; (case h => (with_reducible repeat first | exact mH | apply mT)); (case hn => rfl)) )); (case hj => assumption); (case hv => exact Hrow.out)) ) )); (try simp only [Act.put, sA, sB, sC]); (apply anyJ_takeP 20 (oi := Oper.mk _ _ _ _ _ _) rfl); (case hs | hf => kernel_rfl); (case hr | hF => kernel_rfl); (case hQ => exact fun _ _ _ h => h); (case H => first | exact .inr H ); (case hy => first | (apply yields_pure rfl; intro w; first | (go_simp; with_reducible rfl) )); (try simp only [Act.put, sA, sB, sC]); (apply anyJ_one 21 (o := Oper.mk _ _ _ _ _ _)); (case hr => kernel_rfl); (case hi | hw => rfl); intro K hK; (first | ((with_reducible apply opw_storeC (v := rh x s) H); (case hx | hy | h1 => rfl); (case hm => (with_reducible repeat first | exact Upd.here | apply Upd.there)); (case hs => exact sz_sc _ rfl); (case hk => exact HkS.out); clear H; (try clear W); intro W H) ); (refine hK.out _ _ ?_ ?_); (· first | exact .inl rfl ); clear hK K; (try simp only [Act.put, sA, sB, sC]); (apply anyJ_done (by kernel_rfl)))
      have hql := Hql.out
      rw [show setL (List.zipWith rh q (lay su (wa.take k))) N [rh x s] = List.zipWith rh (q.set N x) (lay su (wa.take (k + 1))) from by rw [lay_take Hx.out, zipS rh hql]; rfl] at H
      rw [drop_cons' Hq.out, drop_cons' (l := wa.map (·.2)) (x := s) (by rw [List.getElem?_map, Hx.out]; rfl)] at H
      have H2 : Holds W (rwsE (x :: qw.drop (k + 1)) (s :: (wa.map (·.2)).drop (k + 1)) :: rwsE q (lay su (wa.take k)) :: blk g [.slice (some ⟨gs, 0, none⟩) n cs, .slice (some ⟨aw, 0, none⟩) m cw, .int .i64 (clf lf), .bool bl] 74 :: ownE 50 1 (.slice (some ⟨gs, 0, none⟩) n cs) n (List.zipWith rh (q.set N x) (lay su (wa.take (k + 1)))) :: ownE 103 2 (.slice (some ⟨aw, 0, none⟩) m cw) m (wtc qw wa) :: L0) := Reord.use H (by ((repeat (with_reducible apply Reord.cons; (case p => (with_reducible repeat first | exact Pull.here | apply Pull.there)))); repeat (with_reducible exact Reord.rest)))
      have H3 := rws_head H2
      have H4 : Holds W (rwE x s :: rwsE q (lay su (wa.take k)) :: rwsE (qw.drop (k + 1)) ((wa.map (·.2)).drop (k + 1)) :: blk g [.slice (some ⟨gs, 0, none⟩) n cs, .slice (some ⟨aw, 0, none⟩) m cw, .int .i64 (clf lf), .bool bl] 74 :: ownE 50 1 (.slice (some ⟨gs, 0, none⟩) n cs) n (List.zipWith rh (q.set N x) (lay su (wa.take (k + 1)))) :: ownE 103 2 (.slice (some ⟨aw, 0, none⟩) m cw) m (wtc qw wa) :: L0) := Reord.use H3 (by ((repeat (with_reducible apply Reord.cons; (case p => (with_reducible repeat first | exact Pull.here | apply Pull.there)))); repeat (with_reducible exact Reord.rest)))
      have H5 := rws_swap (j := N) H4 (by rw [lay_len, Hn.out]; exact hN)
      rw [← lay_take Hx.out] at H5
      clear H H2 H3 H4
      go_wp2_with (first | go_big_skip )
      exact ⟨⟨k + 1, q.set N x, by omega, congrArg (Value.int .i64) (by omega), Reord.use H5 (by ((repeat (with_reducible apply Reord.cons; (case p => (with_reducible repeat first | exact Pull.here | apply Pull.there)))); repeat (with_reducible exact Reord.rest)))⟩, by simp only [intOf]; omega⟩
    · obtain rfl : k = m := by omega
      rw [← Hm.out, List.take_length] at H
      rw [Hm.out] at H
      have e1 : lay su wa = no := Ho.out.nn.symm
      rw [e1] at H
      go_wp2_with (first | ((with_reducible apply wpl_load H); (case hs => exact sc _ rfl); (case hw | hx => rfl); (case hm => (with_reducible repeat first | exact mH)); (case hv => rfl)) | ((with_reducible apply wpl_store1 H); (case hs => exact sz_sc _ rfl); (case hw | hx => rfl); (case hy => (first | exact (rfl : _ = Value.slice _ _ _) )); (case hm => (with_reducible repeat first | exact Upd.here)); (case h1 => rfl); (case hk => exact Nat.le_of_ble_eq_true rfl); clear H; (try clear W); intro W H; simp only [setL, List.set_cons_zero, List.set_cons_succ] at H) )
      have ho := Ho.out
      have e2 : no.length = n := by rw [← e1, lay_len, Hn.out]
      go_end0
      have hsl : ∀ s ∈ no, s.length = 64 := by rw [← e1]; exact lay_64 ho.sl ho.wl
      refine HK.out ⟨gs, cs, q, none, 0, []⟩ _ (rd_shut _ _ ?_ ⟨?_, ?_, rfl, hsl, ?_, ho.l1, ho.l2⟩)
      · simp only [Dd.settle, e2]
        exact Reord.use (rws_new (H.add_nil 103 2)) (by simp only [List.map_nil, List.length_nil, wtc]; ((repeat (with_reducible apply Reord.cons; (case p => (with_reducible repeat first | exact Pull.here | apply Pull.there)))); repeat (first | with_reducible exact Reord.rest | with_reducible apply Reord.drop)))
      · simp only [Dd.settle, e2]; exact h0
      · have := ho.n1; simp only [Dd.settle, e2]; simp only [Hn.out] at this; exact this
      · intro x hx; cases hx
end
end Go.Proofs.YtdnioigcgggdbaaGreatDoor
