/-
  disks: contracts of Fail.
-/
import Derived.Test.YtdnioigcgggdbaaGreatDoorMad
set_option linter.unusedVariables false
set_option linter.unusedSimpArgs false
namespace Go.Proofs.YtdnioigcgggdbaaGreatDoor
open Go.RowKit

def failK (su : List (List UInt8)) (wa : List (Nat × List UInt8)) (kept : List Bool) : Nat → List (List UInt8)
  | 0 => su
  | k + 1 => match wa[k]?, kept[k]? with
    | some x, some true => (failK su wa kept k).set x.1 x.2
    | _, _ => failK su wa kept k
theorem failK_len (su wa kept) : ∀ k, (failK su wa kept k).length = su.length
  | 0 => rfl
  | k + 1 => by
    rw [failK]
    split
    · rw [List.length_set, failK_len su wa kept k]
    · exact failK_len su wa kept k
theorem failK_64 {su wa kept} (h : ∀ s ∈ su, s.length = 64) (hw : ∀ x ∈ wa, x.1 < su.length ∧ x.2.length = 64) : ∀ k, ∀ s ∈ failK su wa kept k, s.length = 64
  | 0, s, hs => h s hs
  | k + 1, s, hs => by
    rw [failK] at hs
    split at hs
    · rename_i x h1 h2
      rcases List.mem_or_eq_of_mem_set hs with h3 | rfl
      · exact failK_64 h hw k s h3
      · exact (hw x (List.mem_of_getElem? h1)).2
    · exact failK_64 h hw k s hs
theorem wcells_at : ∀ {wa : List (Nat × List UInt8)}, (∀ x ∈ wa, x.2.length = 64) → ∀ (k : Nat) (x : Nat × List UInt8), wa[k]? = some x → ((wcells wa).drop (k * 65)).take 65 = wcell x
  | [], _, k, x, h => by simp at h
  | y :: wa, hw, 0, x, h => by
    simp at h
    subst h
    have := hw y List.mem_cons_self
    have hl : (wcell y).length = 65 := by unfold wcell; rw [List.length_cons, bvs_length]; omega
    rw [Nat.zero_mul, List.drop_zero, show wcells (y :: wa) = wcell y ++ wcells wa from by simp [wcells], List.take_append_of_le_length (by omega), List.take_of_length_le (by omega)]
  | y :: wa, hw, k + 1, x, h => by
    have := hw y List.mem_cons_self
    have hl : (wcell y).length = 65 := by unfold wcell; rw [List.length_cons, bvs_length]; omega
    rw [List.getElem?_cons_succ] at h
    rw [show wcells (y :: wa) = wcell y ++ wcells wa from by simp [wcells], show (k + 1) * 65 = (wcell y).length + k * 65 from by omega, List.drop_length_add_append]
    exact wcells_at (fun s hs => hw s (List.mem_cons_of_mem _ hs)) k x h
section
variable {P : Program} {ops : Array Oper} {rest : List Oper} {a : Act} {w : World} {Q : Exit → Act → World → Prop} {L : List Ent} {dst : Option Tmp} {T : TypeId} {x y : Operand} {ty : TypeId} {pos : String} {after : Array Edge} {gd : Option (Nat × Bool)}
/-- a value of one cell out of a slice that reads. -/
theorem wpl_loadV (H : Holds w L) (hw : Region.wanted ⟨dst, .load T x, ty, pos, after, gd⟩ (yielded ops a.tmps) = true) {b o j : Nat} (hx : a.eval x = .pointer (some ⟨b, o + j, none⟩)) {n cap : Nat} {vs : List Value}
    (hm : Gives L fun w => Rd w 1 (some ⟨b, o, none⟩) n cap vs) (hs : Scalar P T) (hj : j < n) {v : Value} (hv : vs[j]? = some v) (h : wpList P ops Q rest (a.put dst v) w) : wpList P ops Q (⟨dst, .load T x, ty, pos, after, gd⟩ :: rest) a w := by
  refine wpl_run hw (v := v) (w' := w) ?_ h
  have hR := hm w H
  obtain ⟨b', o', e, hc⟩ := hR.at_ (by omega)
  injection e with e
  injection e with e1 e2
  subst e1 e2
  have hc2 := hc j (by omega)
  rw [hv] at hc2
  unfold execOp
  simp [hx, Instr.loadAt, Instr.sureAddr, loadVar, run_isAgg_no hs, Sem.run_bind, hc2, load, Sem.run]
end
section
variable {W : World} {L L' L0 : List Ent} {R : Ending → World → Prop} {g : Nat} {v : Dv} {d : Dd}
set_option maxRecDepth 100000 in
set_option maxHeartbeats 2000000 in
theorem fail_k {A : Option Addr} {m c : Nat} {kept : List Bool} (H : Holds W L) (hm : Pull (dkE g v d) L L0) (hr : Gives L0 fun w => Rd w 1 A m c (kept.map Value.bool)) (hlen : d.wa.length ≤ 1000000)
    (k : ∀ g2 v2 w', Holds w' (dkE g2 v2 (dnew (failK d.su d.wa kept (min d.wa.length kept.length))) :: dkE g v d :: L0) → R (.returned (.tuple #[.pointer (some ⟨g2, 0, none⟩), .int .i64 0])) w') :
    Calls Tryz.prog 14 #[.pointer (some ⟨g, 0, none⟩), .slice A m c] W R := by
  have hR := hr W (H.pull hm).tail
  have hkl : kept.length = m := by have := hR.len; rw [List.length_map] at this; omega
  have hmc := hR.le
  have hc := hR.top
  unfold maxLen at hc
  clear hR
  obtain ⟨ho, H⟩ := dk_open (H.pull hm)
  clear hm
  have HK := Lib.hid k; clear k
  obtain ⟨gs, cs, gn, cn, aw, mw, cw⟩ := v; obtain ⟨su, no, wa, lf, bl⟩ := d; have h0 := ho.n0; have h1 := ho.n1; have hmw := ho.m; simp only at h0 h1 hmw; have Ho := Lib.hid ho; simp only at H hlen
  have hcl : su.length ≤ cs ∧ cs ≤ 9223372036854775807 := own_le (H.all (ownE 97 64 (.slice (some ⟨gs, 0, none⟩) su.length cs) su.length (bvs su.flatten)) (by (with_reducible repeat first | exact mH | apply mT)))
  have hcw : mw ≤ cw ∧ cw ≤ 9223372036854775807 := own_le (H.all (ownE 101 65 (.slice aw mw cw) mw (wcells wa)) (by (with_reducible repeat first | exact mH | apply mT)))
  simp only at HK
  rw [← hmw, hkl] at HK
  have Hmw := Lib.hid hmw
  have Hkl := Lib.hid hkl
  clear ho hmw hkl
  rcases Nat.lt_or_ge m mw with hc0 | hc0
  · rw [show min mw m = m from by omega] at HK
    obtain ⟨ab, rfl⟩ := own_some (H.all (ownE 101 65 (.slice aw mw cw) mw (wcells wa)) (by (with_reducible repeat first | exact mH | apply mT))) (by omega)
    have hs1 : ¬ (cw : Int) < m := by omega
    have hs2 : (m : Int) ≤ cw := by omega
    have hs3 : ¬ cw < m := by omega
    have hs4 : m ≤ cw := by omega
    have hs5 : m < mw := hc0
    go_enter Tryz.func14, Tryz.ntmps14
    go_wp2_with (first | ((with_reducible apply wpl_load H); (case hs => exact sc _ rfl); (case hw | hx => rfl); (case hm => (with_reducible repeat first | exact mH)); (case hv => rfl)) | ((with_reducible apply none_no H); (case hm => (with_reducible repeat first | exact mH)); (case hn => assumption); clear H; (try clear W); intro W H) | ((with_reducible apply clone_k H); (case hr => (first | (apply gives_own; (case h => (with_reducible repeat first | exact mH | apply mT)); (case hn => rfl)) )); (case h0 => assumption); (case hn => omega); clear H; (try clear W); intro lb lc W H))
    ((refine wp_region_J [] H (by kernel_rfl) ?_); clear H; (try clear W); intro W H; (apply anyJ_takeP 0 (oi := Oper.mk _ _ _ _ _ _) rfl); (case hs | hf => kernel_rfl); (case hr | hF => kernel_rfl); (case hQ => exact fun _ _ _ h => h); (case H => first | exact .inr H ); (case hy => first | (apply yields_pure rfl; intro w; first | (go_simp; with_reducible rfl) )); (try simp only [Act.put, sA, sB, sC]); (apply anyJ_takeP 1 (oi := Oper.mk _ _ _ _ _ _) rfl); (case hs | hf => kernel_rfl); (case hr | hF => kernel_rfl); (case hQ => exact fun _ _ _ h => h); (case H => first | exact .inr H ); (case hy => first | (apply yields_pure rfl; intro w; first | (go_simp; with_reducible rfl) )); (try simp only [Act.put, sA, sB, sC]); (apply anyJ_takeP 2 (oi := Oper.mk _ _ _ _ _ _) rfl); (case hs | hf => kernel_rfl); (case hr | hF => kernel_rfl); (case hQ => exact fun _ _ _ h => h); (case H => first | exact .inr H ); (case hy => first | (apply yields_pure rfl; intro w; first | (go_simp; with_reducible rfl) )); (try simp only [Act.put, sA, sB, sC]); (apply anyJ_takeP 4 (oi := Oper.mk _ _ _ _ _ _) rfl); (case hs | hf => kernel_rfl); (case hr | hF => kernel_rfl); (case hQ => exact fun _ _ _ h => h); (case H => first | exact .inr H ); (case hy => first | (apply yields_pure rfl; intro w; first | (go_simp; with_reducible rfl) )); (try simp only [Act.put, sA, sB, sC]); (apply anyJ_takeP 5 (oi := Oper.mk _ _ _ _ _ _) rfl); (case hs | hf => kernel_rfl); (case hr | hF => kernel_rfl); (case hQ => exact fun _ _ _ h => h); (case H => first | exact .inr H ); (case hy => first | (apply yields_pure rfl; intro w; first | (go_simp; with_reducible rfl) )); (try simp only [Act.put, sA, sB, sC]); (apply anyJ_takeP 6 (oi := Oper.mk _ _ _ _ _ _) rfl); (case hs | hf => kernel_rfl); (case hr | hF => kernel_rfl); (case hQ => exact fun _ _ _ h => h); (case H => first | exact .inr H ); (case hy => first | (apply yields_pure rfl; intro w; first | (go_simp; with_reducible rfl) )); (try simp only [Act.put, sA, sB, sC]); (apply anyJ_takeP 9 (oi := Oper.mk _ _ _ _ _ _) rfl); (case hs | hf => kernel_rfl); (case hr | hF => kernel_rfl); (case hQ => exact fun _ _ _ h => h); (case H => first | exact .inr H ); (case hy => first | (apply yields_pure rfl; intro w; first | (go_simp; with_reducible rfl) )); (try simp only [Act.put, sA, sB, sC]); (apply anyJ_takeP 10 (oi := Oper.mk _ _ _ _ _ _) rfl); (case hs | hf => kernel_rfl); (case hr | hF => kernel_rfl); (case hQ => exact fun _ _ _ h => h); (case H => first | exact .inr H ); (case hy => first | (apply yields_pure rfl; intro w; first | (go_simp; with_reducible rfl) )); (try simp only [Act.put, sA, sB, sC]); (apply anyJ_takeP 14 (oi := Oper.mk _ _ _ _ _ _) rfl); (case hs | hf => kernel_rfl); (case hr | hF => kernel_rfl); (case hQ => exact fun _ _ _ h => h); (case H => first | exact .inr H ); (case hy => first | (apply yields_pure rfl; intro w; first | (go_simp; with_reducible rfl) )); (try simp only [Act.put, sA, sB, sC]); (apply anyJ_take 3 (oi := Oper.mk _ _ _ _ _ _) rfl); (case hs | hf => kernel_rfl); (case hr | hc | hF => kernel_rfl); (case hQ => exact fun _ _ _ h => h); (case H => first | exact H ); (case hy => (first | ((apply yields_load); (case hs => exact sc _ rfl); (case hw | hx => rfl); (case hm => (with_reducible repeat first | exact mH | apply mT)); (case hv => rfl)) )); (try simp only [Act.put, sA, sB, sC]); (apply anyJ_take 7 (oi := Oper.mk _ _ _ _ _ _) rfl); (case hs | hf => kernel_rfl); (case hr | hc | hF => kernel_rfl); (case hQ => exact fun _ _ _ h => h); (case H => first | exact H ); (case hy => (first | ((apply yields_load); (case hs => exact sc _ rfl); (case hw | hx => rfl); (case hm => (with_reducible repeat first | exact mH | apply mT)); (case hv => rfl)) )); (try simp only [Act.put, sA, sB, sC]); (apply anyJ_takeP 8 (oi := Oper.mk _ _ _ _ _ _) rfl); (case hs | hf => kernel_rfl); (case hr | hF => kernel_rfl); (case hQ => exact fun _ _ _ h => h); (case H => first | exact .inr H ); (case hy => first | (apply yields_pure rfl; intro w; first | (go_simp; with_reducible rfl) )); (try simp only [Act.put, sA, sB, sC]); (apply anyJ_takeP 11 (oi := Oper.mk _ _ _ _ _ _) rfl); (case hs | hf => kernel_rfl); (case hr | hF => kernel_rfl); (case hQ => exact fun _ _ _ h => h); (case H => first | exact .inr H ); (case hy => first | (apply yields_pure rfl; intro w; first | (go_simp; with_reducible rfl) )); (try simp only [Act.put, sA, sB, sC]); (apply anyJ_takeP 12 (oi := Oper.mk _ _ _ _ _ _) rfl); (case hs | hf => kernel_rfl); (case hr | hF => kernel_rfl); (case hQ => exact fun _ _ _ h => h); (case H => first | exact .inr H ); (case hy => first | (apply yields_pure rfl; intro w; first | (go_simp; with_reducible rfl) )); (try simp only [Act.put, sA, sB, sC]); (apply anyJ_takeP 13 (oi := Oper.mk _ _ _ _ _ _) rfl); (case hs | hf => kernel_rfl); (case hr | hF => kernel_rfl); (case hQ => exact fun _ _ _ h => h); (case H => first | exact .inr H ); (case hy => first | (apply yields_pure rfl; intro w; first | (go_simp; with_reducible rfl) )); (try simp only [Act.put, sA, sB, sC]); (apply anyJ_done (by kernel_rfl)))
    have hql : m ≤ mw ∧ m ≤ m := ⟨by omega, by omega⟩
    go_wp2_with (first | go_big_skip )
    go_loopw [7, 8, 30] (fun _ _ i wr => ∃ k : Nat, k ≤ m ∧ i = .int .i64 k ∧ Holds wr (ownE 97 64 (.slice (some ⟨lb, 0, none⟩) su.length lc) su.length (bvs (failK su wa kept k).flatten) :: blk g [.slice (some ⟨gs, 0, none⟩) su.length cs, .slice (some ⟨gn, 0, none⟩) su.length cn, .slice (some ⟨ab, 0, none⟩) mw cw, .int .i64 lf, .bool bl] 94 ::
      ownE 97 64 (.slice (some ⟨gs, 0, none⟩) su.length cs) su.length (bvs su.flatten) :: ownE 97 64 (.slice (some ⟨gn, 0, none⟩) su.length cn) su.length (bvs no.flatten) :: ownE 101 65 (.slice (some ⟨ab, 0, none⟩) mw cw) mw (wcells wa) :: L0)) (fun _ _ i _ => m - (intOf i).toNat)
    case atStart => exact ⟨0, by omega, rfl, H⟩
    case round =>
      clear H W
      obtain ⟨k, hk, rfl, H⟩ := hrel
      rename World => W
      by_cases hlt : k < m
      · have hkw : k < mw := by omega
        have hkm : k < m := by omega
        obtain ⟨⟨n, s⟩, hx⟩ : ∃ x, wa[k]? = some x := ⟨_, List.getElem?_eq_getElem (by rw [← Hmw.out]; exact hkw)⟩
        obtain ⟨y, hy⟩ : ∃ y, kept[k]? = some y := ⟨_, List.getElem?_eq_getElem (by rw [Hkl.out]; exact hkm)⟩
        have ho := Ho.out
        have hns := ho.wl _ (List.mem_of_getElem? hx)
        simp only at hns
        have hn := hns.1
        have Hs64 := Lib.hid hns.2
        have Hx := Lib.hid (wcells_at (fun x h => (ho.wl x h).2) k _ hx)
        unfold wcell at Hx
        simp only at Hx
        have Hy : Hid ((kept.map Value.bool)[k]? = some (.bool y)) := Lib.hid (by rw [List.getElem?_map, hy]; rfl)
        have HkS : Hid (n * 64 + (bvs s).length ≤ (bvs (failK su wa kept k).flatten).length) := Lib.hid (by
          rw [bvs_length, Hs64.out, flat_len (failK_64 ho.sl ho.wl k), failK_len]
          simp only
          omega)
        have hni : (n : Int) < su.length := by omega
        have hki : (k : Int) < m := by omega
        obtain ⟨kb, ko, rfl, -⟩ := (hr W H.tail.tail.tail.tail.tail).at_ (by omega)
        have Hx0 := Lib.hid hx
        have Hy0 := Lib.hid hy
        clear ho hns hx hy
        cases y with
        | true =>
          go_wp2_with (first | ((with_reducible apply wpl_load H); (case hs => exact sc _ rfl); (case hw | hx => rfl); (case hm => (with_reducible repeat first | exact mH | apply mT)); (case hv => rfl)) | ((with_reducible apply wpl_loadR0 (n := 65) (vs := Value.int .i64 (n : Int) :: bvs s) H); (case hs => exact ag _ _ rfl); (case hw | hx => rfl); (case hm => (first | (apply gives_own; (case h => (with_reducible repeat first | exact mH | apply mT)); (case hn => rfl)) )); (case hk | hn => omega); (case hv => exact Hx.out)) | ((with_reducible apply wpl_allocWr H); (case hw => rfl); clear H; (try clear W); intro q1 W H) | ((with_reducible apply wpl_store (vs := Value.int .i64 (n : Int) :: bvs s) H); (case hw | hx | hy => rfl); (case hm => (with_reducible repeat first | exact Upd.here)); (case hs => (rw [wr_len Hs64.out]; exact sz_ag _ _ rfl)); (case h1 => exact List.all_eq_true.2 wr_one); (case hk => (rw [wr_len Hs64.out]; exact Nat.le_of_ble_eq_true rfl)); clear H; (try clear W); intro W H; rw [setL_all' (show (Value.int .i64 (n : Int) :: bvs s).length = (Value.int .i64 0 :: wZ).length from (wr_len Hs64.out).trans rfl)] at H) | ((with_reducible apply wpl_loadV H); (case hs => exact sc _ rfl); (case hw | hx => rfl); (case hm => (first | (repeat (first | assumption | with_reducible apply Gives.cons)))); (case hj => assumption); (case hv => exact Hy.out)) | ((with_reducible apply wpl_loadA (vs := bvs s) (n := 64) H); (case hs => exact ag _ _ rfl); (case hw | hx => rfl); (case hm => (with_reducible repeat first | exact mH)); (case hv => exact sec_of Hs64.out); (case hl => rw [bvs_length, Hs64.out])) | ((with_reducible apply wpl_storeR (vs := bvs s) H); (case hw | hx | hy => rfl); (case h1 => exact bvs_oneCell _); (case hm => (with_reducible repeat first | exact Upd.here | apply Upd.there)); (case hs => (rw [bvs_length, Hs64.out]; exact sz_ag _ _ rfl)); (case hk => exact HkS.out); clear H; (try clear W); intro W H))
          rw [setL_sec (failK_64 Ho.out.sl Ho.out.wl k) (by rw [failK_len]; exact hn) Hs64.out, show (failK su wa kept k).set n s = failK su wa kept (k + 1) from by rw [failK, Hx0.out, Hy0.out]] at H
          exact ⟨⟨k + 1, by omega, congrArg (Value.int .i64) (by omega), Reord.use H (by ((repeat (with_reducible apply Reord.cons; (case p => (with_reducible repeat first | exact Pull.here | apply Pull.there)))); repeat (first | with_reducible exact Reord.rest | with_reducible apply Reord.drop)))⟩, by simp only [intOf]; omega⟩
        | false =>
          go_wp2_with (first | ((with_reducible apply wpl_loadR0 (n := 65) (vs := Value.int .i64 (n : Int) :: bvs s) H); (case hs => exact ag _ _ rfl); (case hw | hx => rfl); (case hm => (first | (apply gives_own; (case h => (with_reducible repeat first | exact mH | apply mT)); (case hn => rfl)) )); (case hk | hn => omega); (case hv => exact Hx.out)) | ((with_reducible apply wpl_allocWr H); (case hw => rfl); clear H; (try clear W); intro q1 W H) | ((with_reducible apply wpl_store (vs := Value.int .i64 (n : Int) :: bvs s) H); (case hw | hx | hy => rfl); (case hm => (with_reducible repeat first | exact Upd.here)); (case hs => (rw [wr_len Hs64.out]; exact sz_ag _ _ rfl)); (case h1 => exact List.all_eq_true.2 wr_one); (case hk => (rw [wr_len Hs64.out]; exact Nat.le_of_ble_eq_true rfl)); clear H; (try clear W); intro W H; rw [setL_all' (show (Value.int .i64 (n : Int) :: bvs s).length = (Value.int .i64 0 :: wZ).length from (wr_len Hs64.out).trans rfl)] at H) | ((with_reducible apply wpl_loadV H); (case hs => exact sc _ rfl); (case hw | hx => rfl); (case hm => (first | (repeat (first | assumption | with_reducible apply Gives.cons)))); (case hj => assumption); (case hv => exact Hy.out)) )
          rw [show failK su wa kept k = failK su wa kept (k + 1) from by rw [failK, Hx0.out, Hy0.out]] at H
          exact ⟨⟨k + 1, by omega, congrArg (Value.int .i64) (by omega), Reord.use H (by ((repeat (with_reducible apply Reord.cons; (case p => (with_reducible repeat first | exact Pull.here | apply Pull.there)))); repeat (first | with_reducible exact Reord.rest | with_reducible apply Reord.drop)))⟩, by simp only [intOf]; omega⟩
      · obtain rfl : k = m := by omega
        have ho := Ho.out
        have Hl := Lib.hid (failK_64 ho.sl ho.wl k (kept := kept))
        clear ho
        go_wp2_with (first | ((with_reducible apply of_k (l := failK su wa kept k) (failK_len su wa kept k) H); (case h0 => assumption); (case h1 => assumption); (case hl => exact Hl.out); clear H; (try clear W); intro g2 v2 W H))
        have ho := Ho.out
        exact HK.out _ _ _ (Reord.use (dk_shut (g := g) ⟨gs, cs, gn, cn, some ⟨ab, 0, none⟩, mw, cw⟩ ⟨su, no, wa, lf, bl⟩ (Reord.use H (by ((repeat (with_reducible apply Reord.cons; (case p => (with_reducible repeat first | exact Pull.here | apply Pull.there)))); repeat (with_reducible exact Reord.rest)))) ho) (by ((repeat (with_reducible apply Reord.cons; (case p => (with_reducible repeat first | exact Pull.here | apply Pull.there)))); repeat (with_reducible exact Reord.rest))))
  · have hc1 : ¬ m < mw := by omega
    rw [show min mw m = mw from by omega] at HK
    rcases Nat.eq_zero_or_pos mw with hz | hpos
    · subst hz
      clear hc1 hc0
      have hs1 : ¬ (cw : Int) < 0 := by omega
      have hs2 : (0 : Int) ≤ cw := by omega
      have hs6 : ¬ (m : Int) < 0 := by omega
      rw [show failK su wa kept 0 = su from rfl] at HK
      go_enter Tryz.func14, Tryz.ntmps14
      go_wp2_with (first | ((with_reducible apply wpl_load H); (case hs => exact sc _ rfl); (case hw | hx => rfl); (case hm => (with_reducible repeat first | exact mH)); (case hv => rfl)) | ((with_reducible apply none_no H); (case hm => (with_reducible repeat first | exact mH)); (case hn => assumption); clear H; (try clear W); intro W H) | ((with_reducible apply clone_k H); (case hr => (first | (apply gives_own; (case h => (with_reducible repeat first | exact mH | apply mT)); (case hn => rfl)) )); (case h0 => assumption); (case hn => omega); clear H; (try clear W); intro lb lc W H))
      ((refine wp_region_J [] H (by kernel_rfl) ?_); clear H; (try clear W); intro W H; (apply anyJ_takeP 0 (oi := Oper.mk _ _ _ _ _ _) rfl); (case hs | hf => kernel_rfl); (case hr | hF => kernel_rfl); (case hQ => exact fun _ _ _ h => h); (case H => first | exact .inr H ); (case hy => first | (apply yields_pure rfl; intro w; first | (go_simp; with_reducible rfl) )); (try simp only [Act.put, sA, sB, sC]); (apply anyJ_takeP 1 (oi := Oper.mk _ _ _ _ _ _) rfl); (case hs | hf => kernel_rfl); (case hr | hF => kernel_rfl); (case hQ => exact fun _ _ _ h => h); (case H => first | exact .inr H ); (case hy => first | (apply yields_pure rfl; intro w; first | (go_simp; with_reducible rfl) )); (try simp only [Act.put, sA, sB, sC]); (apply anyJ_takeP 2 (oi := Oper.mk _ _ _ _ _ _) rfl); (case hs | hf => kernel_rfl); (case hr | hF => kernel_rfl); (case hQ => exact fun _ _ _ h => h); (case H => first | exact .inr H ); (case hy => first | (apply yields_pure rfl; intro w; first | (go_simp; with_reducible rfl) )); (try simp only [Act.put, sA, sB, sC]); (apply anyJ_takeP 4 (oi := Oper.mk _ _ _ _ _ _) rfl); (case hs | hf => kernel_rfl); (case hr | hF => kernel_rfl); (case hQ => exact fun _ _ _ h => h); (case H => first | exact .inr H ); (case hy => first | (apply yields_pure rfl; intro w; first | (go_simp; with_reducible rfl) )); (try simp only [Act.put, sA, sB, sC]); (apply anyJ_takeP 5 (oi := Oper.mk _ _ _ _ _ _) rfl); (case hs | hf => kernel_rfl); (case hr | hF => kernel_rfl); (case hQ => exact fun _ _ _ h => h); (case H => first | exact .inr H ); (case hy => first | (apply yields_pure rfl; intro w; first | (go_simp; with_reducible rfl) )); (try simp only [Act.put, sA, sB, sC]); (apply anyJ_takeP 6 (oi := Oper.mk _ _ _ _ _ _) rfl); (case hs | hf => kernel_rfl); (case hr | hF => kernel_rfl); (case hQ => exact fun _ _ _ h => h); (case H => first | exact .inr H ); (case hy => first | (apply yields_pure rfl; intro w; first | (go_simp; with_reducible rfl) )); (try simp only [Act.put, sA, sB, sC]); (apply anyJ_takeP 9 (oi := Oper.mk _ _ _ _ _ _) rfl); (case hs | hf => kernel_rfl); (case hr | hF => kernel_rfl); (case hQ => exact fun _ _ _ h => h); (case H => first | exact .inr H ); (case hy => first | (apply yields_pure rfl; intro w; first | (go_simp; with_reducible rfl) )); (try simp only [Act.put, sA, sB, sC]); (apply anyJ_takeP 10 (oi := Oper.mk _ _ _ _ _ _) rfl); (case hs | hf => kernel_rfl); (case hr | hF => kernel_rfl); (case hQ => exact fun _ _ _ h => h); (case H => first | exact .inr H ); (case hy => first | (apply yields_pure rfl; intro w; first | (go_simp; with_reducible rfl) )); (try simp only [Act.put, sA, sB, sC]); (apply anyJ_takeP 14 (oi := Oper.mk _ _ _ _ _ _) rfl); (case hs | hf => kernel_rfl); (case hr | hF => kernel_rfl); (case hQ => exact fun _ _ _ h => h); (case H => first | exact .inr H ); (case hy => first | (apply yields_pure rfl; intro w; first | (go_simp; with_reducible rfl) )); (try simp only [Act.put, sA, sB, sC]); (apply anyJ_take 3 (oi := Oper.mk _ _ _ _ _ _) rfl); (case hs | hf => kernel_rfl); (case hr | hc | hF => kernel_rfl); (case hQ => exact fun _ _ _ h => h); (case H => first | exact H ); (case hy => (first | ((apply yields_load); (case hs => exact sc _ rfl); (case hw | hx => rfl); (case hm => (with_reducible repeat first | exact mH | apply mT)); (case hv => rfl)) )); (try simp only [Act.put, sA, sB, sC]); (apply anyJ_take 7 (oi := Oper.mk _ _ _ _ _ _) rfl); (case hs | hf => kernel_rfl); (case hr | hc | hF => kernel_rfl); (case hQ => exact fun _ _ _ h => h); (case H => first | exact H ); (case hy => (first | ((apply yields_load); (case hs => exact sc _ rfl); (case hw | hx => rfl); (case hm => (with_reducible repeat first | exact mH | apply mT)); (case hv => rfl)) )); (try simp only [Act.put, sA, sB, sC]); (apply anyJ_takeP 8 (oi := Oper.mk _ _ _ _ _ _) rfl); (case hs | hf => kernel_rfl); (case hr | hF => kernel_rfl); (case hQ => exact fun _ _ _ h => h); (case H => first | exact .inr H ); (case hy => first | (apply yields_pure rfl; intro w; first | (go_simp; with_reducible rfl) )); (try simp only [Act.put, sA, sB, sC]); (apply anyJ_takeP 11 (oi := Oper.mk _ _ _ _ _ _) rfl); (case hs | hf => kernel_rfl); (case hr | hF => kernel_rfl); (case hQ => exact fun _ _ _ h => h); (case H => first | exact .inr H ); (case hy => first | (apply yields_pure rfl; intro w; first | (go_simp; with_reducible rfl) )); (try simp only [Act.put, sA, sB, sC]); (apply anyJ_takeP 12 (oi := Oper.mk _ _ _ _ _ _) rfl); (case hs | hf => kernel_rfl); (case hr | hF => kernel_rfl); (case hQ => exact fun _ _ _ h => h); (case H => first | exact .inr H ); (case hy => first | (apply yields_pure rfl; intro w; first | rfl)); (try simp only [Act.put, sA, sB, sC]); (apply anyJ_takeP 13 (oi := Oper.mk _ _ _ _ _ _) rfl); (case hs | hf => kernel_rfl); (case hr | hF => kernel_rfl); (case hQ => exact fun _ _ _ h => h); (case H => first | exact .inr H ); (case hy => first | (apply yields_pure rfl; intro w; first | (go_simp; with_reducible rfl) )); (try simp only [Act.put, sA, sB, sC]); (apply anyJ_done (by kernel_rfl)))
      go_wp2_with (first | go_big_skip )
      refine wp_loop_rounds 1 ?_
      rw [rounds_succ]
      have ho := Ho.out
      have Hl := Lib.hid ho.sl
      clear ho
      go_wp2_with (first | ((with_reducible apply of_k (l := su) rfl H); (case h0 => assumption); (case h1 => assumption); (case hl => exact Hl.out); clear H; (try clear W); intro g2 v2 W H))
      have ho := Ho.out
      exact HK.out _ _ _ (Reord.use (dk_shut (g := g) ⟨gs, cs, gn, cn, aw, 0, cw⟩ ⟨su, no, wa, lf, bl⟩ (Reord.use H (by ((repeat (with_reducible apply Reord.cons; (case p => (with_reducible repeat first | exact Pull.here | apply Pull.there)))); repeat (with_reducible exact Reord.rest)))) ho) (by ((repeat (with_reducible apply Reord.cons; (case p => (with_reducible repeat first | exact Pull.here | apply Pull.there)))); repeat (with_reducible exact Reord.rest))))
    · have hs5 : 0 < mw := hpos
      obtain ⟨ab, rfl⟩ := own_some (H.all (ownE 101 65 (.slice aw mw cw) mw (wcells wa)) (by (with_reducible repeat first | exact mH | apply mT))) (by omega)
      have hs1 : ¬ (cw : Int) < mw := by omega
      have hs2 : (mw : Int) ≤ cw := by omega
      have hs3 : ¬ cw < mw := by omega
      have hs4 : mw ≤ cw := by omega
      go_enter Tryz.func14, Tryz.ntmps14
      go_wp2_with (first | ((with_reducible apply wpl_load H); (case hs => exact sc _ rfl); (case hw | hx => rfl); (case hm => (with_reducible repeat first | exact mH)); (case hv => rfl)) | ((with_reducible apply none_no H); (case hm => (with_reducible repeat first | exact mH)); (case hn => assumption); clear H; (try clear W); intro W H) | ((with_reducible apply clone_k H); (case hr => (first | (apply gives_own; (case h => (with_reducible repeat first | exact mH | apply mT)); (case hn => rfl)) )); (case h0 => assumption); (case hn => omega); clear H; (try clear W); intro lb lc W H))
      ((refine wp_region_J [] H (by kernel_rfl) ?_); clear H; (try clear W); intro W H; (apply anyJ_takeP 0 (oi := Oper.mk _ _ _ _ _ _) rfl); (case hs | hf => kernel_rfl); (case hr | hF => kernel_rfl); (case hQ => exact fun _ _ _ h => h); (case H => first | exact .inr H ); (case hy => first | (apply yields_pure rfl; intro w; first | (go_simp; with_reducible rfl) )); (try simp only [Act.put, sA, sB, sC]); (apply anyJ_takeP 1 (oi := Oper.mk _ _ _ _ _ _) rfl); (case hs | hf => kernel_rfl); (case hr | hF => kernel_rfl); (case hQ => exact fun _ _ _ h => h); (case H => first | exact .inr H ); (case hy => first | (apply yields_pure rfl; intro w; first | (go_simp; with_reducible rfl) )); (try simp only [Act.put, sA, sB, sC]); (apply anyJ_takeP 2 (oi := Oper.mk _ _ _ _ _ _) rfl); (case hs | hf => kernel_rfl); (case hr | hF => kernel_rfl); (case hQ => exact fun _ _ _ h => h); (case H => first | exact .inr H ); (case hy => first | (apply yields_pure rfl; intro w; first | (go_simp; with_reducible rfl) )); (try simp only [Act.put, sA, sB, sC]); (apply anyJ_takeP 4 (oi := Oper.mk _ _ _ _ _ _) rfl); (case hs | hf => kernel_rfl); (case hr | hF => kernel_rfl); (case hQ => exact fun _ _ _ h => h); (case H => first | exact .inr H ); (case hy => first | (apply yields_pure rfl; intro w; first | (go_simp; with_reducible rfl) )); (try simp only [Act.put, sA, sB, sC]); (apply anyJ_takeP 5 (oi := Oper.mk _ _ _ _ _ _) rfl); (case hs | hf => kernel_rfl); (case hr | hF => kernel_rfl); (case hQ => exact fun _ _ _ h => h); (case H => first | exact .inr H ); (case hy => first | (apply yields_pure rfl; intro w; first | (go_simp; with_reducible rfl) )); (try simp only [Act.put, sA, sB, sC]); (apply anyJ_takeP 6 (oi := Oper.mk _ _ _ _ _ _) rfl); (case hs | hf => kernel_rfl); (case hr | hF => kernel_rfl); (case hQ => exact fun _ _ _ h => h); (case H => first | exact .inr H ); (case hy => first | (apply yields_pure rfl; intro w; first | (go_simp; with_reducible rfl) )); (try simp only [Act.put, sA, sB, sC]); (apply anyJ_takeP 9 (oi := Oper.mk _ _ _ _ _ _) rfl); (case hs | hf => kernel_rfl); (case hr | hF => kernel_rfl); (case hQ => exact fun _ _ _ h => h); (case H => first | exact .inr H ); (case hy => first | (apply yields_pure rfl; intro w; first | (go_simp; with_reducible rfl) )); (try simp only [Act.put, sA, sB, sC]); (apply anyJ_takeP 10 (oi := Oper.mk _ _ _ _ _ _) rfl); (case hs | hf => kernel_rfl); (case hr | hF => kernel_rfl); (case hQ => exact fun _ _ _ h => h); (case H => first | exact .inr H ); (case hy => first | (apply yields_pure rfl; intro w; first | (go_simp; with_reducible rfl) )); (try simp only [Act.put, sA, sB, sC]); (apply anyJ_takeP 14 (oi := Oper.mk _ _ _ _ _ _) rfl); (case hs | hf => kernel_rfl); (case hr | hF => kernel_rfl); (case hQ => exact fun _ _ _ h => h); (case H => first | exact .inr H ); (case hy => first | (apply yields_pure rfl; intro w; first | (go_simp; with_reducible rfl) )); (try simp only [Act.put, sA, sB, sC]); (apply anyJ_take 3 (oi := Oper.mk _ _ _ _ _ _) rfl); (case hs | hf => kernel_rfl); (case hr | hc | hF => kernel_rfl); (case hQ => exact fun _ _ _ h => h); (case H => first | exact H ); (case hy => (first | ((apply yields_load); (case hs => exact sc _ rfl); (case hw | hx => rfl); (case hm => (with_reducible repeat first | exact mH | apply mT)); (case hv => rfl)) )); (try simp only [Act.put, sA, sB, sC]); (apply anyJ_take 7 (oi := Oper.mk _ _ _ _ _ _) rfl); (case hs | hf => kernel_rfl); (case hr | hc | hF => kernel_rfl); (case hQ => exact fun _ _ _ h => h); (case H => first | exact H ); (case hy => (first | ((apply yields_load); (case hs => exact sc _ rfl); (case hw | hx => rfl); (case hm => (with_reducible repeat first | exact mH | apply mT)); (case hv => rfl)) )); (try simp only [Act.put, sA, sB, sC]); (apply anyJ_takeP 8 (oi := Oper.mk _ _ _ _ _ _) rfl); (case hs | hf => kernel_rfl); (case hr | hF => kernel_rfl); (case hQ => exact fun _ _ _ h => h); (case H => first | exact .inr H ); (case hy => first | (apply yields_pure rfl; intro w; first | (go_simp; with_reducible rfl) )); (try simp only [Act.put, sA, sB, sC]); (apply anyJ_takeP 11 (oi := Oper.mk _ _ _ _ _ _) rfl); (case hs | hf => kernel_rfl); (case hr | hF => kernel_rfl); (case hQ => exact fun _ _ _ h => h); (case H => first | exact .inr H ); (case hy => first | (apply yields_pure rfl; intro w; first | (go_simp; with_reducible rfl) )); (try simp only [Act.put, sA, sB, sC]); (apply anyJ_takeP 12 (oi := Oper.mk _ _ _ _ _ _) rfl); (case hs | hf => kernel_rfl); (case hr | hF => kernel_rfl); (case hQ => exact fun _ _ _ h => h); (case H => first | exact .inr H ); (case hy => first | (apply yields_pure rfl; intro w; first | (go_simp; with_reducible rfl) )); (try simp only [Act.put, sA, sB, sC]); (apply anyJ_takeP 13 (oi := Oper.mk _ _ _ _ _ _) rfl); (case hs | hf => kernel_rfl); (case hr | hF => kernel_rfl); (case hQ => exact fun _ _ _ h => h); (case H => first | exact .inr H ); (case hy => first | (apply yields_pure rfl; intro w; first | (go_simp; with_reducible rfl) )); (try simp only [Act.put, sA, sB, sC]); (apply anyJ_done (by kernel_rfl)))
      have hql : mw ≤ mw ∧ mw ≤ m := ⟨by omega, by omega⟩
      go_wp2_with (first | go_big_skip )
      go_loopw [7, 8, 30] (fun _ _ i wr => ∃ k : Nat, k ≤ mw ∧ i = .int .i64 k ∧ Holds wr (ownE 97 64 (.slice (some ⟨lb, 0, none⟩) su.length lc) su.length (bvs (failK su wa kept k).flatten) :: blk g [.slice (some ⟨gs, 0, none⟩) su.length cs, .slice (some ⟨gn, 0, none⟩) su.length cn, .slice (some ⟨ab, 0, none⟩) mw cw, .int .i64 lf, .bool bl] 94 ::
        ownE 97 64 (.slice (some ⟨gs, 0, none⟩) su.length cs) su.length (bvs su.flatten) :: ownE 97 64 (.slice (some ⟨gn, 0, none⟩) su.length cn) su.length (bvs no.flatten) :: ownE 101 65 (.slice (some ⟨ab, 0, none⟩) mw cw) mw (wcells wa) :: L0)) (fun _ _ i _ => mw - (intOf i).toNat)
      case atStart => exact ⟨0, by omega, rfl, H⟩
      case round =>
        clear H W
        obtain ⟨k, hk, rfl, H⟩ := hrel
        rename World => W
        by_cases hlt : k < mw
        · have hkw : k < mw := by omega
          have hkm : k < m := by omega
          obtain ⟨⟨n, s⟩, hx⟩ : ∃ x, wa[k]? = some x := ⟨_, List.getElem?_eq_getElem (by rw [← Hmw.out]; exact hkw)⟩
          obtain ⟨y, hy⟩ : ∃ y, kept[k]? = some y := ⟨_, List.getElem?_eq_getElem (by rw [Hkl.out]; exact hkm)⟩
          have ho := Ho.out
          have hns := ho.wl _ (List.mem_of_getElem? hx)
          simp only at hns
          have hn := hns.1
          have Hs64 := Lib.hid hns.2
          have Hx := Lib.hid (wcells_at (fun x h => (ho.wl x h).2) k _ hx)
          unfold wcell at Hx
          simp only at Hx
          have Hy : Hid ((kept.map Value.bool)[k]? = some (.bool y)) := Lib.hid (by rw [List.getElem?_map, hy]; rfl)
          have HkS : Hid (n * 64 + (bvs s).length ≤ (bvs (failK su wa kept k).flatten).length) := Lib.hid (by
            rw [bvs_length, Hs64.out, flat_len (failK_64 ho.sl ho.wl k), failK_len]
            simp only
            omega)
          have hni : (n : Int) < su.length := by omega
          have hki : (k : Int) < m := by omega
          have hki2 : (k : Int) < mw := by omega
          obtain ⟨kb, ko, rfl, -⟩ := (hr W H.tail.tail.tail.tail.tail).at_ (by omega)
          have Hx0 := Lib.hid hx
          have Hy0 := Lib.hid hy
          clear ho hns hx hy
          cases y with
          | true =>
            go_wp2_with (first | ((with_reducible apply wpl_load H); (case hs => exact sc _ rfl); (case hw | hx => rfl); (case hm => (with_reducible repeat first | exact mH | apply mT)); (case hv => rfl)) | ((with_reducible apply wpl_loadR0 (n := 65) (vs := Value.int .i64 (n : Int) :: bvs s) H); (case hs => exact ag _ _ rfl); (case hw | hx => rfl); (case hm => (first | (apply gives_own; (case h => (with_reducible repeat first | exact mH | apply mT)); (case hn => rfl)) )); (case hk | hn => omega); (case hv => exact Hx.out)) | ((with_reducible apply wpl_allocWr H); (case hw => rfl); clear H; (try clear W); intro q1 W H) | ((with_reducible apply wpl_store (vs := Value.int .i64 (n : Int) :: bvs s) H); (case hw | hx | hy => rfl); (case hm => (with_reducible repeat first | exact Upd.here)); (case hs => (rw [wr_len Hs64.out]; exact sz_ag _ _ rfl)); (case h1 => exact List.all_eq_true.2 wr_one); (case hk => (rw [wr_len Hs64.out]; exact Nat.le_of_ble_eq_true rfl)); clear H; (try clear W); intro W H; rw [setL_all' (show (Value.int .i64 (n : Int) :: bvs s).length = (Value.int .i64 0 :: wZ).length from (wr_len Hs64.out).trans rfl)] at H) | ((with_reducible apply wpl_loadV H); (case hs => exact sc _ rfl); (case hw | hx => rfl); (case hm => (first | (repeat (first | assumption | with_reducible apply Gives.cons)))); (case hj => assumption); (case hv => exact Hy.out)) | ((with_reducible apply wpl_loadA (vs := bvs s) (n := 64) H); (case hs => exact ag _ _ rfl); (case hw | hx => rfl); (case hm => (with_reducible repeat first | exact mH)); (case hv => exact sec_of Hs64.out); (case hl => rw [bvs_length, Hs64.out])) | ((with_reducible apply wpl_storeR (vs := bvs s) H); (case hw | hx | hy => rfl); (case h1 => exact bvs_oneCell _); (case hm => (with_reducible repeat first | exact Upd.here | apply Upd.there)); (case hs => (rw [bvs_length, Hs64.out]; exact sz_ag _ _ rfl)); (case hk => exact HkS.out); clear H; (try clear W); intro W H))
            rw [setL_sec (failK_64 Ho.out.sl Ho.out.wl k) (by rw [failK_len]; exact hn) Hs64.out, show (failK su wa kept k).set n s = failK su wa kept (k + 1) from by rw [failK, Hx0.out, Hy0.out]] at H
            exact ⟨⟨k + 1, by omega, congrArg (Value.int .i64) (by omega), Reord.use H (by ((repeat (with_reducible apply Reord.cons; (case p => (with_reducible repeat first | exact Pull.here | apply Pull.there)))); repeat (first | with_reducible exact Reord.rest | with_reducible apply Reord.drop)))⟩, by simp only [intOf]; omega⟩
          | false =>
            go_wp2_with (first | ((with_reducible apply wpl_loadR0 (n := 65) (vs := Value.int .i64 (n : Int) :: bvs s) H); (case hs => exact ag _ _ rfl); (case hw | hx => rfl); (case hm => (first | (apply gives_own; (case h => (with_reducible repeat first | exact mH | apply mT)); (case hn => rfl)) )); (case hk | hn => omega); (case hv => exact Hx.out)) | ((with_reducible apply wpl_allocWr H); (case hw => rfl); clear H; (try clear W); intro q1 W H) | ((with_reducible apply wpl_store (vs := Value.int .i64 (n : Int) :: bvs s) H); (case hw | hx | hy => rfl); (case hm => (with_reducible repeat first | exact Upd.here)); (case hs => (rw [wr_len Hs64.out]; exact sz_ag _ _ rfl)); (case h1 => exact List.all_eq_true.2 wr_one); (case hk => (rw [wr_len Hs64.out]; exact Nat.le_of_ble_eq_true rfl)); clear H; (try clear W); intro W H; rw [setL_all' (show (Value.int .i64 (n : Int) :: bvs s).length = (Value.int .i64 0 :: wZ).length from (wr_len Hs64.out).trans rfl)] at H) | ((with_reducible apply wpl_loadV H); (case hs => exact sc _ rfl); (case hw | hx => rfl); (case hm => (first | (repeat (first | assumption | with_reducible apply Gives.cons)))); (case hj => assumption); (case hv => exact Hy.out)) )
            rw [show failK su wa kept k = failK su wa kept (k + 1) from by rw [failK, Hx0.out, Hy0.out]] at H
            exact ⟨⟨k + 1, by omega, congrArg (Value.int .i64) (by omega), Reord.use H (by ((repeat (with_reducible apply Reord.cons; (case p => (with_reducible repeat first | exact Pull.here | apply Pull.there)))); repeat (first | with_reducible exact Reord.rest | with_reducible apply Reord.drop)))⟩, by simp only [intOf]; omega⟩
        · obtain rfl : k = mw := by omega
          have ho := Ho.out
          have Hl := Lib.hid (failK_64 ho.sl ho.wl k (kept := kept))
          clear ho
          go_wp2_with (first | ((with_reducible apply of_k (l := failK su wa kept k) (failK_len su wa kept k) H); (case h0 => assumption); (case h1 => assumption); (case hl => exact Hl.out); clear H; (try clear W); intro g2 v2 W H))
          have ho := Ho.out
          exact HK.out _ _ _ (Reord.use (dk_shut (g := g) ⟨gs, cs, gn, cn, some ⟨ab, 0, none⟩, k, cw⟩ ⟨su, no, wa, lf, bl⟩ (Reord.use H (by ((repeat (with_reducible apply Reord.cons; (case p => (with_reducible repeat first | exact Pull.here | apply Pull.there)))); repeat (with_reducible exact Reord.rest)))) ho) (by ((repeat (with_reducible apply Reord.cons; (case p => (with_reducible repeat first | exact Pull.here | apply Pull.there)))); repeat (with_reducible exact Reord.rest))))
end
end Go.Proofs.YtdnioigcgggdbaaGreatDoor
