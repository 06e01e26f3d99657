/-
  stores: the reference's Open.
-/
import Derived.Test.YtdnioigcgggdbaaGreatDoorRs3
set_option linter.unusedVariables false
set_option linter.unusedSimpArgs false
namespace Go.Proofs.YtdnioigcgggdbaaGreatDoor
open Go.RowKit
theorem gives_one1 {e : Ent} {L : List Ent} {P : World → Prop} (h : Gives [e] P) (hm : e ∈ L) : Gives L P := fun w H => h w ⟨fun x hx => by obtain rfl := List.mem_singleton.1 hx; exact H.all _ hm, List.pairwise_singleton _ _⟩
/-- what a store says where its records end. -/
def endW (p : Nat) (w : World) : Nat := match w.cell? ⟨p, 3, none⟩ with
  | some (.int _ z) => z.toNat
  | _ => 0
theorem endW_eq {w : World} {L : List Ent} {p : Nat} {x0 x1 x2 x4 : Value} {z : Int} {T : TypeId} (H : Holds w L) (hm : blk p [x0, x1, x2, .int .i64 z, x4] T ∈ L) : endW p w = z.toNat := by
  unfold endW
  have hc : w.cell? ⟨p, 3, none⟩ = some (.int .i64 z) := by rw [cell_of_row w p 3 _ T (0, 0) (H.all _ hm)]; rfl
  rw [hc]
theorem rwrite_at {W : World} {L L0 : List Ent} {R : Ending → World → Prop} {g : Nat} {v : Rv} {d d' : Dd} {e : Int} {A : Option Addr} {m c : Nat} (n : Nat) {N : Int} (b : List UInt8) (hN : N = (n : Int)) (hz : d.write ((n : Nat) : Int) b = (d', e)) (hlen : d.wa.length ≤ 1000000) (H : Holds W L) (hm : Pull (rdE g v d) L L0) (hr : Gives L0 fun w => Rd w 1 A m c (bvs b))
    (k : ∀ v' w', Holds w' (rdE g v' d' :: L0) → R (.returned (.int .i64 e)) w') :
    Calls Tryz.prog 19 #[.pointer (some ⟨g, 0, none⟩), .int .i64 N, .slice A m c] W R := by
  subst hN
  exact rwrite_c _ b hz hlen H hm hr k
section
variable {W : World} {L L' L0 L1 : List Ent} {R : Ending → World → Prop} {p g : Nat} {rv : Rv} {d : Dd}
set_option maxRecDepth 100000 in
set_option maxHeartbeats 4000000 in
theorem rsopen_k (fr mn : Nat) (h1 : fr + mn ≤ d.su.length) (h2 : 1 ≤ mn) (h4 : d.su.length ≤ 4096) (hnn : d.no.length = d.su.length) (hnl : ∀ s ∈ d.no, s.length = 64) (H : Holds W L) (hm : Pull (rdE g rv d) L L0)
    (hwl : d.wa.length ≤ 500000)
    (kS : ∀ d' s p v rv' w', openR d fr mn = (d', some s, 0) → Holds w' (rsE p g v s :: rdE g rv' d' :: L0) → R (.returned (.tuple #[.pointer (some ⟨p, 0, none⟩), .int .i64 0])) w')
    (kN : ∀ d' e rv' w', openR d fr mn = (d', none, e) → Holds w' (rdE g rv' d' :: L0) → R (.returned (.tuple #[.pointer none, .int .i64 e])) w') :
    Calls Tryz.prog 8 #[.pointer (some ⟨g, 0, none⟩), .int .i64 fr, .int .i64 mn] W R := by
  have H2 := H.pull hm
  clear H hm
  have H := H2
  clear H2
  have KS := Lib.hid kS
  have KN := Lib.hid kN
  have Hnn := Lib.hid hnn
  have Hnl := Lib.hid hnl
  have hfl : (flatN d fr mn).length = 64 * mn := by
    have h0 : ∀ j, fr + j ≤ d.su.length → (flatN d fr j).length = 64 * j := by
      intro j
      induction j with
      | zero => intro _; rfl
      | succ j ih =>
        intro hj
        obtain ⟨s, hs⟩ : ∃ s, d.no[fr + j]? = some s := ⟨_, List.getElem?_eq_getElem (by omega)⟩
        have h2 := hnl s (List.mem_of_getElem? hs)
        rw [flatN, List.length_append, ih (by omega)]
        unfold Dd.sec
        rw [hs, Option.getD_some, h2]
        omega
    exact h0 mn h1
  clear kS kN hnn hnl
  have e1 : decide ((fr : Int) < 0) = false := by simp
  have e2 : decide ((mn : Int) < 1) = false := by simp; omega
  have e3 : decide ((d.su.length : Int) < fr) = false := by simp; omega
  have e4 : decide ((d.su.length : Int) - fr < mn) = false := by simp; omega
  have e5 := Lib.hid (wrapI (x := (d.su.length : Int) - (fr : Int)) (by omega) (by omega))
  go_enter Tryz.func8, Tryz.ntmps8
  go_wp2_with (first | ((with_reducible refine wpl_absorb H ?_); clear H; (first | ((fail_if_success (have _t := q1)); generalize W.heap.size = q1) ); (try clear W); intro W H) | ((with_reducible apply rlen_k H); (case hm => (with_reducible repeat first | exact Pull.here)); clear H; (try clear W); intro W H) | ((with_reducible apply rbytes_k h1 h4 Hnn.out Hnl.out); (case H => exact H); (case hm => (with_reducible repeat first | exact Pull.here | apply Pull.there)); (case hp => (with_reducible repeat first | exact mH)); clear H; (try clear W); intro A0 c0 W H))
  -- q1: the store
  generalize hflat : flatN d fr mn = flat at *
  have Hflat := Lib.hid hflat
  obtain ⟨ab, hab⟩ := own_some (H.all (ownE 5 1 (.slice A0 (64 * mn) c0) (64 * mn) (bvs flat)) (by (with_reducible repeat first | exact mH))) (by omega)
  subst hab
  have hc0 := (own_le (H.all (ownE 5 1 (.slice (some ⟨ab, 0, none⟩) (64 * mn) c0) (64 * mn) (bvs flat)) (by (with_reducible repeat first | exact mH)))).1
  have Hfl := Lib.hid hfl
  clear hflat hfl
  have H := srs_new (H.add_nil 50 1)
  try rw [e5.out]
  go_loopw [] (fun wr => ∃ (f k e : Nat) (pre : List (List UInt8)) (A : Option Addr) (c : Nat) (q : List (Option Addr × Nat)), e ≤ mn ∧ (flat.drop (64 * e)).length < 64 * f ∧ pre.length = k ∧ k ≤ e ∧
    (readR (mn + 1) 0 flat).1 = pre ++ (readR f k (flat.drop (64 * e))).1 ∧ (readR (mn + 1) 0 flat).2 = e + (readR f k (flat.drop (64 * e))).2 ∧ (∀ r ∈ pre, r.length ≤ 256) ∧
    Holds wr (blk q1 [.pointer (some ⟨g, 0, none⟩), .int .i64 fr, .int .i64 mn, .int .i64 e, .slice A k c] 87 :: ownE 50 1 (.slice A k c) k (List.zipWith rh q pre) :: srsE q pre :: ownE 5 1 (.slice (some ⟨ab, 0, none⟩) (64 * mn) c0) (64 * mn) (bvs flat) :: rdE g rv d :: L0)) (fun wr => mn - endW q1 wr)
  case atStart => exact ⟨mn + 1, 0, 0, [], none, 0, [], by omega, by rw [Nat.mul_zero, List.drop_zero, Hfl.out]; omega, rfl, Nat.le_refl _, by rw [Nat.mul_zero, List.drop_zero]; rfl, by rw [Nat.mul_zero, List.drop_zero, Nat.zero_add], (fun r hr => by cases hr), Reord.use H (by rw [show ((0 : Nat) : Int) = 0 from rfl, List.zipWith_nil_left]; ((repeat (with_reducible apply Reord.cons; (case p => (with_reducible repeat first | exact Pull.here | apply Pull.there)))); repeat (with_reducible exact Reord.rest)))⟩
  case round =>
    clear H
    obtain ⟨f, k, e, pre, A, c, q, hem, hf, hk, hke, hr1, hr2, hpre, H⟩ := hrel
    rename World => W
    have hend : endW q1 W = e := (endW_eq H (by (with_reducible repeat first | exact mH | assumption | apply mT))).trans (Int.toNat_natCast e)
    obtain ⟨y, hy⟩ : ∃ y, flat.drop (64 * e) = y := ⟨_, rfl⟩
    rw [hy] at hf hr1 hr2
    have hyl : y.length = 64 * (mn - e) := by rw [← hy, List.length_drop, Hfl.out]; omega
    obtain ⟨f, rfl⟩ : ∃ f', f = f' + 1 := ⟨f - 1, by omega⟩
    have hm6 : 64 * mn - 64 * e ≤ 1000000 := by omega
    have e1 := Lib.hid (wrapI (x := 64 * (e : Int)) (by omega) (by omega))
    have Hr1 := Lib.hid hr1
    have Hr2 := Lib.hid hr2
    have Hpre := Lib.hid hpre
    have Hk := Lib.hid hk
    have hGe : e < mn → Gives [ownE 5 1 (.slice (some ⟨ab, 0, none⟩) (64 * mn) c0) (64 * mn) (bvs flat)] fun w => Rd w 1 (some ⟨ab, 64 * e, none⟩) (64 * mn - 64 * e) (c0 - 64 * e) (bvs y) := fun hlt => (gives_own (List.mem_singleton.2 rfl) rfl).imp fun w h => by
      rw [← hy]
      exact loA (64 * e) (by rw [if_neg (by omega), Nat.zero_add]) (by omega) h
    have Hy := Lib.hid hy
    clear hr1 hr2 hpre hk hy
    by_cases hgo : e < mn ∧ fErr y = 0 ∧ fNum y = k + 1
    · obtain ⟨hlt, he, hnum⟩ := hgo
      have hei : (e : Int) < mn := by omega
      obtain ⟨ho1, ho2, ho3⟩ := fErr_ok he
      have hs1 := secs_le (fMany y)
      have hs2 := secs_lt (fMany y)
      have hs3 := secs_pos (fMany y)
      have HG := Lib.hid (hGe hlt)
      have He := Lib.hid he
      have HN := Lib.hid hnum
      have hr : readR (f + 1) k y = (fRec y :: (readR f (k + 1) (y.drop (secs (fMany y) * 64))).1, secs (fMany y) + (readR f (k + 1) (y.drop (secs (fMany y) * 64))).2) := by rw [readR, if_pos ⟨he, hnum⟩]
      have HR := Lib.hid hr
      have hrl : (fRec y).length = fMany y := by unfold fRec; rw [List.length_take, List.length_drop]; omega
      have Hrl := Lib.hid hrl
      clear hGe he hnum hr hrl
      go_wp2_with (first | ((with_reducible refine wpl_absorb H ?_); clear H; (first | generalize W.heap.size = q0); (try clear W); intro W H) | ((with_reducible apply wpl_load H); (case hs => exact sc _ rfl); (case hw | hx => rfl); (case hm => (with_reducible repeat first | exact mH | apply mT)); (case hv => rfl)) | ((with_reducible apply wpl_store1 H); (case hs => exact sz_sc _ rfl); (case hw | hx => rfl); (case hy => (first | exact (rfl : _ = Value.int _ _) | exact (rfl : _ = Value.slice _ _ _) )); (case hm => (with_reducible repeat first | exact Upd.here | apply Upd.there)); (case h1 => rfl); (case hk => exact Nat.le_of_ble_eq_true rfl); clear H; (try clear W); intro W H; simp only [setL, List.set_cons_zero, List.set_cons_succ] at H) | ((with_reducible apply wpl_sliceLo (q := 64 * e) (A' := some ⟨ab, 64 * e, none⟩)); (case hw | hx | hs => rfl); (case hA => rw [if_neg (by omega), Nat.zero_add]); (case hl => first | rfl ); (case h1 => omega)) | (((with_reducible apply rfget_yes (l := y) hm6 He.out); (case H => exact H); (case G => exact gives_one1 HG.out (by (with_reducible repeat first | exact mH | apply mT))); clear H; (try clear W); intro ra rn rc W hrn H; subst hrn); rw [HN.out]) | ((with_reducible apply wpl_app H); (case hw => rfl); (case ht => exact Tryz.underlying71); (case hinfo => exact inf_50); (case hs | hx => rfl); (case hm => (with_reducible repeat first | exact Pull.here | apply Pull.there)); (case hzs => rfl); (case hsz => decide); (case hr => exact gives_blk (by (with_reducible repeat first | exact mH)) rfl (by omega)); (case h1 => (intro u hu; obtain rfl := List.mem_singleton.1 hu; rfl)); (case h63 => (simp only [maxLen]; omega)); (case hbytes => omega); clear H; (try clear W); intro A1 n1 c1 W hn1 H hle1 htop1; obtain rfl := hn1.out; clear hn1))
      have hr := HR.out
      have hrl := Hrl.out
      have hql := srs_len (q := q) (ls := pre) H (by (with_reducible repeat first | exact mH | assumption | apply mT))
      have H3 : Holds W (ownE 5 1 (.slice ra (fMany y) rc) (fMany y) (bvs (fRec y)) :: srsE q pre :: blk q1 [.pointer (some ⟨g, 0, none⟩), .int .i64 fr, .int .i64 mn, .int .i64 ((e : Int) + (secs (fMany y) : Int)), .slice A1 (k + 1) c1] 87 ::
        ownE 50 1 (.slice A1 (k + 1) c1) (k + 1) (List.zipWith rh q pre ++ [.slice ra (fMany y) rc]) :: ownE 5 1 (.slice (some ⟨ab, 0, none⟩) (64 * mn) c0) (64 * mn) (bvs flat) :: rdE g rv d :: L0) := Reord.use H (by ((repeat (with_reducible apply Reord.cons; (case p => (with_reducible repeat first | exact Pull.here | apply Pull.there)))); repeat (first | with_reducible exact Reord.rest | with_reducible apply Reord.drop)))
      have H4 := H3.to_row
      have es : rowE 5 ra (fMany y) rc (bvs (fRec y)) = srE (ra, rc) (fRec y) := by unfold srE; rw [hrl]
      rw [es] at H4
      have H5 := srs_add H4
      have ez : List.zipWith rh q pre ++ [.slice ra (fMany y) rc] = List.zipWith rh (q ++ [(ra, rc)]) (pre ++ [fRec y]) := by
        rw [List.zipWith_append hql]
        unfold rh
        simp only [List.zipWith_cons_cons, List.zipWith_nil_left, hrl]
      rw [ez] at H5
      have hyd : y.drop (secs (fMany y) * 64) = flat.drop (64 * (e + secs (fMany y))) := by
        rw [← Hy.out, List.drop_drop]
        congr 1
        omega
      have H6 : Holds W (blk q1 [.pointer (some ⟨g, 0, none⟩), .int .i64 fr, .int .i64 mn, .int .i64 ((e + secs (fMany y) : Nat) : Int), .slice A1 (k + 1) c1] 87 :: ownE 50 1 (.slice A1 (k + 1) c1) (k + 1) (List.zipWith rh (q ++ [(ra, rc)]) (pre ++ [fRec y])) :: srsE (q ++ [(ra, rc)]) (pre ++ [fRec y]) :: ownE 5 1 (.slice (some ⟨ab, 0, none⟩) (64 * mn) c0) (64 * mn) (bvs flat) :: rdE g rv d :: L0) :=
        Reord.use H5 (by rw [show (((e + secs (fMany y) : Nat)) : Int) = (e : Int) + (secs (fMany y) : Int) from by omega]; ((repeat (with_reducible apply Reord.cons; (case p => (with_reducible repeat first | exact Pull.here | apply Pull.there)))); repeat (with_reducible exact Reord.rest)))
      refine ⟨?_, ?_⟩
      · (repeat apply Exists.intro)
        refine ⟨⟨f, k + 1, e + secs (fMany y), pre ++ [fRec y], A1, c1, q ++ [(ra, rc)], ?_, ?_, ?_, ?_, ?_, ?_, ?_, H6⟩, rfl⟩
        · omega
        · rw [List.length_drop, Hfl.out]; omega
        · rw [List.length_append, Hk.out]; rfl
        · omega
        · rw [Hr1.out, hr, List.append_assoc, hyd]; rfl
        · rw [Hr2.out, hr, Nat.add_assoc, hyd]
        · intro r hr'
          rcases List.mem_append.1 hr' with h | h
          · exact Hpre.out r h
          · obtain rfl := List.mem_singleton.1 h
            rw [hrl]; omega
      · rw [(endW_eq H6 (by (with_reducible repeat first | exact mH | assumption | apply mT))).trans (Int.toNat_natCast _), hend]
        omega
    · have hstop : readR (f + 1) k y = ([], 0) := by
        rw [readR, if_neg]
        rintro ⟨h3, h4⟩
        refine hgo ⟨?_, h3, h4⟩
        have := (fErr_ok h3).1
        omega
      have hr1 := Hr1.out
      have hr2 := Hr2.out
      rw [hstop] at hr1 hr2
      simp only [List.append_nil, Nat.add_zero] at hr1 hr2
      have HR1 := Lib.hid hr1
      have HR2 := Lib.hid hr2
      have hx : e = mn ∨ (e < mn ∧ ¬ fErr y = 0) ∨ (e < mn ∧ fErr y = 0 ∧ ¬ fNum y = k + 1) := by
        by_cases h3 : e < mn
        · by_cases h4 : fErr y = 0
          · exact .inr (.inr ⟨h3, h4, fun h => hgo ⟨h3, h4, h⟩⟩)
          · exact .inr (.inl ⟨h3, h4⟩)
        · exact .inl (by omega)
      clear hstop hr1 hr2 hgo Hr1 Hr2
      rcases hx with hx | ⟨hx, he⟩ | ⟨hx, he, hnum⟩
      case' inl =>
        have hei : ¬ (e : Int) < mn := by omega
        clear hx hGe
        go_wp2_with (first | ((with_reducible apply wpl_load H); (case hs => exact sc _ rfl); (case hw | hx => rfl); (case hm => (with_reducible repeat first | exact mH)); (case hv => rfl)) )
      case' inr.inl =>
        have hei : (e : Int) < mn := by omega
        have He := Lib.hid he
        have HG := Lib.hid (hGe hx)
        clear he hGe
        go_wp2_with (first | ((with_reducible apply wpl_load H); (case hs => exact sc _ rfl); (case hw | hx => rfl); (case hm => (with_reducible repeat first | exact mH)); (case hv => rfl)) | ((with_reducible apply wpl_sliceLo (q := 64 * e) (A' := some ⟨ab, 64 * e, none⟩)); (case hw | hx | hs => rfl); (case hA => rw [if_neg (by omega), Nat.zero_add]); (case hl => first | rfl ); (case h1 => omega)) | ((with_reducible apply rfget_no (l := y) hm6 He.out); (case H => exact H); (case G => exact gives_one1 HG.out (by (with_reducible repeat first | exact mH | apply mT))); clear H; (try clear W); intro en0 W hen0 H; have henb : (((en0 : Nat) : Int) == 0) = false := (by rw [beq_eq_false_iff_ne]; omega)))
      case' inr.inr =>
        have hei : (e : Int) < mn := by omega
        have He := Lib.hid he
        have HG := Lib.hid (hGe hx)
        have hnb : ((((fNum y : Nat) : Int) == ((k : Nat) : Int) + 1)) = false := by rw [beq_eq_false_iff_ne]; omega
        clear he hGe hnum
        go_wp2_with (first | ((with_reducible apply wpl_load H); (case hs => exact sc _ rfl); (case hw | hx => rfl); (case hm => (with_reducible repeat first | exact mH | apply mT)); (case hv => rfl)) | ((with_reducible apply wpl_sliceLo (q := 64 * e) (A' := some ⟨ab, 64 * e, none⟩)); (case hw | hx | hs => rfl); (case hA => rw [if_neg (by omega), Nat.zero_add]); (case hl => first | rfl ); (case h1 => omega)) | ((with_reducible apply rfget_yes (l := y) hm6 He.out); (case H => exact H); (case G => exact gives_one1 HG.out (by (with_reducible repeat first | exact mH | apply mT))); clear H; (try clear W); intro ra rn rc W hrn H; subst hrn))
      all_goals
        clear hei
        have hk := Hk.out
        subst hk
        replace H : Holds W (blk q1 [.pointer (some ⟨g, 0, none⟩), .int .i64 fr, .int .i64 mn, .int .i64 e, .slice A pre.length c] 87 :: ownE 50 1 (.slice A pre.length c) pre.length (List.zipWith rh q pre) :: srsE q pre :: rdE g rv d :: L0) := Reord.use H (by ((repeat (with_reducible apply Reord.cons; (case p => (with_reducible repeat first | exact Pull.here | apply Pull.there)))); repeat (first | with_reducible exact Reord.rest | with_reducible apply Reord.drop)))
        have hE : regE d fr mn = e := by unfold regE; rw [Hflat.out]; exact HR2.out
        have hRr : regR d fr mn = pre := by unfold regR; rw [Hflat.out]; exact HR1.out
        have hD : regD d fr mn = wipL d fr mn e := by unfold regD; rw [hE]; exact keptN_dirty d fr e mn
        have hopen : openR d fr mn = if (wipL d fr mn e).any (fun i => decide (e + 5 ≤ i)) then (d, none, 4)
          else if (wipe fr (wipL d fr mn e) d).2 = 0 then (if (wipe fr (wipL d fr mn e) d).1.sync.2 = 0 then ((wipe fr (wipL d fr mn e) d).1.sync.1, some ⟨fr, mn, e, pre⟩, 0) else ((wipe fr (wipL d fr mn e) d).1.sync.1, none, (wipe fr (wipL d fr mn e) d).1.sync.2))
          else ((wipe fr (wipL d fr mn e) d).1, none, (wipe fr (wipL d fr mn e) d).2) := by unfold openR; rw [hE, hRr, hD]
        have HO := Lib.hid hopen
        have Hok : Hid (SOk ⟨fr, mn, e, pre⟩) := Lib.hid ⟨by simp only; omega, hem, hke, Hpre.out⟩
        clear hE hRr hD hopen HR1 HR2 Hflat Hfl
        go_loopw [14] (fun iv wr => ∃ i : Nat, e + 5 ≤ i ∧ i ≤ mn + 5 ∧ iv = .int .i64 i ∧ (∀ j, e + 5 ≤ j → j < i → j < mn → dirtyB d fr j = false) ∧
          Holds wr (blk q1 [.pointer (some ⟨g, 0, none⟩), .int .i64 fr, .int .i64 mn, .int .i64 e, .slice A pre.length c] 87 :: ownE 50 1 (.slice A pre.length c) pre.length (List.zipWith rh q pre) :: srsE q pre :: rdE g rv d :: L0)) (fun iv _ => mn + 5 - (intOf iv).toNat)
        case atStart => exact ⟨e + 5, Nat.le_refl _, by omega, congrArg (Value.int .i64) (by omega), fun j h1 h2 => by omega, H⟩
        case round =>
          clear H
          obtain ⟨i, hi1, hi2, rfl, hcl, H⟩ := hrel
          rename World => W
          have Hcl := Lib.hid hcl
          clear hcl
          by_cases hlt : i < mn
          · have hii : (i : Int) < mn := by omega
            have Hil : Hid (fr + i < d.su.length) := Lib.hid (by omega)
            cases hz : dirtyB d fr i with
            | true =>
              have Hz : Hid ((!(d.sec (fr + i)).any (· != 0)) = false) := Lib.hid (by rw [show (d.sec (fr + i)).any (· != 0) = true from hz]; rfl)
              have hop := HO.out
              rw [if_pos (bad_any.2 ⟨i, hi1, hlt, hz⟩)] at hop
              have Hop := Lib.hid hop
              clear hz hop
              go_wp2_with (first | ((with_reducible apply rnoughts_k (fr := fr) i); (case hN => first | rfl ); (case h1 => exact Hil.out); (case h4 => exact h4); (case hnn => exact Hnn.out); (case hnl => exact Hnl.out); (case H => exact H); (case hm => (with_reducible repeat first | exact Pull.here | apply Pull.there)); (case hp => (with_reducible repeat first | exact mH)); clear H; (try clear W); intro W H; rw [Hz.out]))
              exact KN.out _ _ _ _ Hop.out (Reord.use H (by ((repeat (with_reducible apply Reord.cons; (case p => (with_reducible repeat first | exact Pull.here)))); repeat (first | with_reducible exact Reord.rest | with_reducible apply Reord.drop))))
            | false =>
              have Hz : Hid ((!(d.sec (fr + i)).any (· != 0)) = true) := Lib.hid (by rw [show (d.sec (fr + i)).any (· != 0) = false from hz]; rfl)
              have Hd := Lib.hid hz
              clear hz
              go_wp2_with (first | ((with_reducible apply rnoughts_k (fr := fr) i); (case hN => first | rfl ); (case h1 => exact Hil.out); (case h4 => exact h4); (case hnn => exact Hnn.out); (case hnl => exact Hnl.out); (case H => exact H); (case hm => (with_reducible repeat first | exact Pull.here | apply Pull.there)); (case hp => (with_reducible repeat first | exact mH)); clear H; (try clear W); intro W H; rw [Hz.out]))
              refine ⟨⟨i + 1, by omega, by omega, congrArg (Value.int .i64) (by omega), ?_, Reord.use H (by ((repeat (with_reducible apply Reord.cons; (case p => (with_reducible repeat first | exact Pull.here | apply Pull.there)))); repeat (with_reducible exact Reord.rest)))⟩, by simp only [intOf]; omega⟩
              intro j h1 h2 h3
              by_cases hji : j < i
              · exact Hcl.out j h1 hji h3
              · obtain rfl : j = i := by omega
                exact Hd.out
          · have hnb : (wipL d fr mn e).any (fun i => decide (e + 5 ≤ i)) = false := by
              rw [Bool.eq_false_iff]
              intro h
              obtain ⟨j, a1, a2, a3⟩ := bad_any.1 h
              rw [Hcl.out j a1 (by omega) a2] at a3
              cases a3
            have hop := HO.out
            rw [hnb, if_neg (by decide)] at hop
            have Hop := Lib.hid hop
            have Hw0 : Hid (wipL d fr mn (e + 5) = []) := Lib.hid (wipL_none fun j h1 h2 => Hcl.out j h1 (by omega) h2)
            have hii : ¬ (i : Int) < mn := by omega
            clear hop hnb Hcl HO
            go_wp2_with (first | ((with_reducible apply wpl_load H); (case hs => exact sc _ rfl); (case hw | hx => rfl); (case hm => (with_reducible repeat first | exact mH)); (case hv => rfl)) )
            clear hii hlt hi1 hi2
            go_loopw [15] (fun iv wr => ∃ (x : Nat) (rv' : Rv) (d' : Dd), e ≤ x ∧ x ≤ mn ∧ x ≤ e + 5 ∧ iv = .int .i64 x ∧ wipe fr (wipL d fr mn e) d = wipe fr (wipL d fr mn x) d' ∧ d'.su.length = d.su.length ∧ d'.no.length = d.su.length ∧ (∀ s ∈ d'.no, s.length = 64) ∧ (∀ j, x ≤ j → d'.sec (fr + j) = d.sec (fr + j)) ∧ d'.wa.length ≤ d.wa.length + (x - e) ∧
              Holds wr (blk q1 [.pointer (some ⟨g, 0, none⟩), .int .i64 fr, .int .i64 mn, .int .i64 e, .slice A pre.length c] 87 :: ownE 50 1 (.slice A pre.length c) pre.length (List.zipWith rh q pre) :: srsE q pre :: rdE g rv' d' :: L0)) (fun iv _ => mn - (intOf iv).toNat)
            case atStart => exact ⟨e, rv, d, Nat.le_refl _, hem, by omega, rfl, rfl, rfl, Hnn.out, Hnl.out, fun _ _ => rfl, by omega, H⟩
            case round =>
              clear H W
              obtain ⟨x, rv', d', hx1, hx2, hx5, rfl, hw, hsu, hnn, hnl, hse, hwa, H⟩ := hrel
              rename World => W
              have Hw := Lib.hid hw
              have Hsu := Lib.hid hsu
              have Hn1 := Lib.hid hnn
              have Hn2 := Lib.hid hnl
              have Hse := Lib.hid hse
              have Hwa := Lib.hid hwa
              have Hs4 : Hid (d'.su.length ≤ 4096) := Lib.hid (by omega)
              have Hnn' : Hid (d'.no.length = d'.su.length) := Lib.hid (by omega)
              clear hw hsu hnn hnl hse hwa
              by_cases hlt : x < mn ∧ x < e + 5
              · obtain ⟨hlt, hl5⟩ := hlt
                have hii : (x : Int) < mn := by omega
                have hi5 : (x : Int) < (e : Int) + 5 := by omega
                have Hxl : Hid (fr + x < d'.su.length) := Lib.hid (by rw [Hsu.out]; omega)
                cases hz : dirtyB d fr x with
                | true =>
                  have Hz : Hid ((!(d'.sec (fr + x)).any (· != 0)) = false) := Lib.hid (by rw [Hse.out x (Nat.le_refl _), show (d.sec (fr + x)).any (· != 0) = true from hz]; rfl)
                  obtain ⟨d2, e2, hz2⟩ : ∃ d2 e2, d'.write ((fr + x : Nat) : Int) [] = (d2, e2) := ⟨_, _, rfl⟩
                  have h9 := write_9 d' (b := []) Hxl.out (by decide)
                  have g1 := write_su d' ((fr + x : Nat) : Int) []
                  have g2 := write_no_len d' ((fr + x : Nat) : Int) []
                  have g3 := write_64 d' (b := []) Hxl.out (by decide) Hn2.out
                  have g4 := fun j hj => write_sec d' (b := []) j hj Hxl.out (by decide)
                  have g5 := write_wa d' ((fr + x : Nat) : Int) []
                  have hwn : wipe fr (wipL d fr mn e) d = if e2 = 0 then wipe fr (wipL d fr mn (x + 1)) d2 else (d2, e2) := by rw [Hw.out, wipL_cons hlt, hz, if_pos rfl, wipe_cons, hz2]
                  rw [hz2] at h9 g1 g2 g3 g4 g5
                  simp only at h9 g1 g2 g3 g4 g5
                  have Hz2 := Lib.hid hz2
                  have G1 : Hid (d2.su.length = d.su.length) := Lib.hid (by rw [g1, Hsu.out])
                  have G2 : Hid (d2.no.length = d.su.length) := Lib.hid (by rw [g2, Hn1.out])
                  have G3 := Lib.hid g3
                  have G4 : Hid (∀ j, x + 1 ≤ j → d2.sec (fr + j) = d.sec (fr + j)) := Lib.hid fun j hj => by rw [g4 (fr + j) (by omega)]; exact Hse.out j (by omega)
                  have G5 : Hid (d2.wa.length ≤ d.wa.length + (x + 1 - e)) := Lib.hid (by have := Hwa.out; omega)
                  have hwl' : Hid (d'.wa.length ≤ 1000000) := Lib.hid (by have := Hwa.out; omega)
                  have e1 := Lib.hid (wrapI (x := (fr : Int) + (x : Int)) (by omega) (by omega))
                  clear hz hz2 g1 g2 g3 g4 g5
                  rcases h9 with h0 | h0
                  · subst h0
                    rw [if_pos rfl] at hwn
                    have Hwn := Lib.hid hwn
                    clear hwn
                    go_wp2_with (first | ((with_reducible apply wpl_load H); (case hs => exact sc _ rfl); (case hw | hx => rfl); (case hm => (with_reducible repeat first | exact mH)); (case hv => rfl)) | ((with_reducible apply rnoughts_k (fr := fr) x); (case hN => first | rfl ); (case h1 => exact Hxl.out); (case h4 => exact Hs4.out); (case hnn => exact Hnn'.out); (case hnl => exact Hn2.out); (case H => exact H); (case hm => (with_reducible repeat first | exact Pull.here | apply Pull.there)); (case hp => (with_reducible repeat first | exact mH)); clear H; (try clear W); intro W H; rw [Hz.out]) | ((with_reducible apply rwrite_at (fr + x) []); (case hN => first | rfl ); (case hz => exact Hz2.out); (case hlen => exact hwl'.out); (case H => exact H); (case hm => (with_reducible repeat first | exact Pull.here)); (case hr => exact gives_nilB); clear H; (try clear W); intro rv2 W H))
                    exact ⟨⟨x + 1, rv2, d2, by omega, by omega, by omega, congrArg (Value.int .i64) (by omega), Hwn.out, G1.out, G2.out, G3.out, G4.out, G5.out, Reord.use H (by ((repeat (with_reducible apply Reord.cons; (case p => (with_reducible repeat first | exact Pull.here | apply Pull.there)))); repeat (with_reducible exact Reord.rest)))⟩, by simp only [intOf]; omega⟩
                  · subst h0
                    rw [if_neg (by decide)] at hwn
                    have hop := Hop.out
                    rw [hwn, if_neg (show ¬ (d2, (9 : Int)).2 = 0 from by show ¬ (9 : Int) = 0; decide)] at hop
                    have Hop2 := Lib.hid hop
                    clear hwn hop
                    go_wp2_with (first | ((with_reducible apply wpl_load H); (case hs => exact sc _ rfl); (case hw | hx => rfl); (case hm => (with_reducible repeat first | exact mH)); (case hv => rfl)) | ((with_reducible apply rnoughts_k (fr := fr) x); (case hN => first | rfl ); (case h1 => exact Hxl.out); (case h4 => exact Hs4.out); (case hnn => exact Hnn'.out); (case hnl => exact Hn2.out); (case H => exact H); (case hm => (with_reducible repeat first | exact Pull.here | apply Pull.there)); (case hp => (with_reducible repeat first | exact mH)); clear H; (try clear W); intro W H; rw [Hz.out]) | ((with_reducible apply rwrite_at (fr + x) []); (case hN => first | rfl ); (case hz => exact Hz2.out); (case hlen => exact hwl'.out); (case H => exact H); (case hm => (with_reducible repeat first | exact Pull.here)); (case hr => exact gives_nilB); clear H; (try clear W); intro rv2 W H))
                    exact KN.out _ _ _ _ Hop2.out (Reord.use H (by ((repeat (with_reducible apply Reord.cons; (case p => (with_reducible repeat first | exact Pull.here)))); repeat (first | with_reducible exact Reord.rest | with_reducible apply Reord.drop))))
                | false =>
                  have Hz : Hid ((!(d'.sec (fr + x)).any (· != 0)) = true) := Lib.hid (by rw [Hse.out x (Nat.le_refl _), show (d.sec (fr + x)).any (· != 0) = false from hz]; rfl)
                  have hwn : wipe fr (wipL d fr mn e) d = wipe fr (wipL d fr mn (x + 1)) d' := by rw [Hw.out, wipL_cons hlt, hz, if_neg (by decide)]
                  have Hwn := Lib.hid hwn
                  clear hz hwn
                  go_wp2_with (first | ((with_reducible apply wpl_load H); (case hs => exact sc _ rfl); (case hw | hx => rfl); (case hm => (with_reducible repeat first | exact mH)); (case hv => rfl)) | ((with_reducible apply rnoughts_k (fr := fr) x); (case hN => first | rfl ); (case h1 => exact Hxl.out); (case h4 => exact Hs4.out); (case hnn => exact Hnn'.out); (case hnl => exact Hn2.out); (case H => exact H); (case hm => (with_reducible repeat first | exact Pull.here | apply Pull.there)); (case hp => (with_reducible repeat first | exact mH)); clear H; (try clear W); intro W H; rw [Hz.out]))
                  exact ⟨⟨x + 1, rv', d', by omega, by omega, by omega, congrArg (Value.int .i64) (by omega), Hwn.out, Hsu.out, Hn1.out, Hn2.out, fun j hj => Hse.out j (by omega), by have := Hwa.out; omega, Reord.use H (by ((repeat (with_reducible apply Reord.cons; (case p => (with_reducible repeat first | exact Pull.here | apply Pull.there)))); repeat (with_reducible exact Reord.rest)))⟩, by simp only [intOf]; omega⟩
              · have hw0 : wipL d fr mn x = [] := by
                  by_cases h : x = mn
                  · rw [h]; unfold wipL; rw [Nat.sub_self]; rfl
                  · rw [show x = e + 5 from by omega]; exact Hw0.out
                have hwn : wipe fr (wipL d fr mn e) d = (d', 0) := by rw [Hw.out, hw0, wipe_nil]
                obtain ⟨d2, e2, hz2⟩ : ∃ d2 e2, d'.sync = (d2, e2) := ⟨_, _, rfl⟩
                have h9 := sync_9 d'
                rw [hz2] at h9
                simp only at h9
                have hop := Hop.out
                rw [hwn, if_pos rfl] at hop
                simp only [hz2] at hop
                have Hz2 := Lib.hid hz2
                clear hw0 hwn hz2
                rcases h9 with h0 | h0
                · subst h0
                  rw [if_pos rfl] at hop
                  have Hop2 := Lib.hid hop
                  clear hop
                  rcases (by omega : x = e + 5 ∨ (x < e + 5 ∧ x = mn)) with h | ⟨h, h2⟩
                  · have hi5 : ¬ (x : Int) < (e : Int) + 5 := by omega
                    clear h hlt
                    go_wp2_with (first | ((with_reducible apply wpl_load H); (case hs => exact sc _ rfl); (case hw | hx => rfl); (case hm => (with_reducible repeat first | exact mH)); (case hv => rfl)) | ((with_reducible apply rsync_c); (case hz => exact Hz2.out); (case H => exact H); (case hm => (with_reducible repeat first | exact Pull.here | apply Pull.there)); clear H; (try clear W); intro rv2 W H))
                    exact KS.out _ _ _ _ _ _ Hop2.out (rs_shut ⟨A, c, q⟩ ⟨fr, mn, e, pre⟩ (Reord.use H (by ((repeat (with_reducible apply Reord.cons; (case p => (with_reducible repeat first | exact Pull.here | apply Pull.there)))); repeat (with_reducible exact Reord.rest)))) Hok.out)
                  · have hi5 : (x : Int) < (e : Int) + 5 := by omega
                    have hii : ¬ (x : Int) < mn := by omega
                    clear h h2 hlt
                    go_wp2_with (first | ((with_reducible apply wpl_load H); (case hs => exact sc _ rfl); (case hw | hx => rfl); (case hm => (with_reducible repeat first | exact mH)); (case hv => rfl)) | ((with_reducible apply rsync_c); (case hz => exact Hz2.out); (case H => exact H); (case hm => (with_reducible repeat first | exact Pull.here | apply Pull.there)); clear H; (try clear W); intro rv2 W H))
                    exact KS.out _ _ _ _ _ _ Hop2.out (rs_shut ⟨A, c, q⟩ ⟨fr, mn, e, pre⟩ (Reord.use H (by ((repeat (with_reducible apply Reord.cons; (case p => (with_reducible repeat first | exact Pull.here | apply Pull.there)))); repeat (with_reducible exact Reord.rest)))) Hok.out)
                · subst h0
                  rw [if_neg (by decide)] at hop
                  have Hop2 := Lib.hid hop
                  clear hop
                  rcases (by omega : x = e + 5 ∨ (x < e + 5 ∧ x = mn)) with h | ⟨h, h2⟩
                  · have hi5 : ¬ (x : Int) < (e : Int) + 5 := by omega
                    clear h hlt
                    go_wp2_with (first | ((with_reducible apply wpl_load H); (case hs => exact sc _ rfl); (case hw | hx => rfl); (case hm => (with_reducible repeat first | exact mH)); (case hv => rfl)) | ((with_reducible apply rsync_c); (case hz => exact Hz2.out); (case H => exact H); (case hm => (with_reducible repeat first | exact Pull.here | apply Pull.there)); clear H; (try clear W); intro rv2 W H))
                    exact KN.out _ _ _ _ Hop2.out (Reord.use H (by ((repeat (with_reducible apply Reord.cons; (case p => (with_reducible repeat first | exact Pull.here)))); repeat (first | with_reducible exact Reord.rest | with_reducible apply Reord.drop))))
                  · have hi5 : (x : Int) < (e : Int) + 5 := by omega
                    have hii : ¬ (x : Int) < mn := by omega
                    clear h h2 hlt
                    go_wp2_with (first | ((with_reducible apply wpl_load H); (case hs => exact sc _ rfl); (case hw | hx => rfl); (case hm => (with_reducible repeat first | exact mH)); (case hv => rfl)) | ((with_reducible apply rsync_c); (case hz => exact Hz2.out); (case H => exact H); (case hm => (with_reducible repeat first | exact Pull.here | apply Pull.there)); clear H; (try clear W); intro rv2 W H))
                    exact KN.out _ _ _ _ Hop2.out (Reord.use H (by ((repeat (with_reducible apply Reord.cons; (case p => (with_reducible repeat first | exact Pull.here)))); repeat (first | with_reducible exact Reord.rest | with_reducible apply Reord.drop))))
end
end Go.Proofs.YtdnioigcgggdbaaGreatDoor
