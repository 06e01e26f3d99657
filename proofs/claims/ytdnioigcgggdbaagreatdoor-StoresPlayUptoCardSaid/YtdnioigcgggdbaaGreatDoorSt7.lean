/-
  stores: Open.
-/
import Derived.Test.YtdnioigcgggdbaaGreatDoorMal
import Derived.Test.YtdnioigcgggdbaaGreatDoorMak
set_option linter.unusedVariables false
set_option linter.unusedSimpArgs false
namespace Go.Proofs.YtdnioigcgggdbaaGreatDoor
open Go.RowKit Go.Shelf
attribute [local go_sem] Oper.semAt_some
theorem dk_ok' {W : World} {g : Nat} {v : Dv} {d : Dd} (h : (dkE g v d).says W) : DOk v d := h.1
theorem dwrite_at {W : World} {L L0 : List Ent} {R : Ending → World → Prop} {g : Nat} {v : Dv} {d d' : Dd} {e : Int} {A : Option Addr} {m c : Nat} (n : Nat) {N : Int} (b : List UInt8) (hN : N = (n : Int)) (hz : d.write ((n : Nat) : Int) b = (d', e)) (hlen : d.wa.length ≤ 1000000) (H : Holds W L) (hm : Pull (dkE g v d) L L0) (hr : Gives L0 fun w => Rd w 1 A m c (bvs b))
    (k : ∀ v' w', Holds w' (dkE g v' d' :: L0) → R (.returned (.int .i64 e)) w') :
    Calls Tryz.prog 18 #[.pointer (some ⟨g, 0, none⟩), .int .i64 N, .slice A m c] W R := by
  subst hN
  exact dwrite_c _ b hz hlen H hm hr k
theorem holds_dropR {w : World} {A L : List Ent} : ∀ {O : List Ent}, Holds w (A ++ (L ++ O)) → Holds w (A ++ L)
  | [], h => by rwa [List.append_nil] at h
  | e :: O, h => by
    have h2 : Holds w (e :: (A ++ (L ++ O))) := h.perm (by
      rw [← List.append_assoc, ← List.append_assoc]
      exact List.perm_middle)
    exact holds_dropR h2.tail
theorem ret_mark2 {F : Fence} {n : Nat} {P : Program} {fn : Func} {R : Ending → World → Prop} {a : Act} {w : World} {L L' : List Ent} {S t u : Nat} {x y : Value} (hfn : fn.results = #[.tmp t, .tmp u]) (hd : a.defers = [{ target := .collected S, args := #[] }])
    (H : Holds w L) (hm : Pull (objE S (.deferred (some []))) L L') (hx : a.tmps.getD t undef = x) (hy : a.tmps.getD u undef = y) (k : ∀ w', Holds w' L' → R (.returned (.tuple #[x, y])) w') : bodyPostM F n P fn R .ret a w := by
  have H2 := H.pull hm
  show LeavesInM F n P fn a.tmps R a.defers .returning w
  rw [hd]
  refine ⟨by simp, .inl ⟨_, _, rfl, run_takeDeferred H2.head, ?_⟩⟩
  refine ⟨_, results_tmp2 hfn _ _ _, ?_⟩
  have h := k _ (H2.put_obj (.deferred none)).tail
  rw [← hx, ← hy] at h
  exact h
section
variable {W : World} {L L' L0 : List Ent} {R : Ending → World → Prop} {p g : Nat} {dv : Dv} {d : Dd}
set_option maxRecDepth 100000 in
set_option maxHeartbeats 400000 in
theorem regionF_k (H : Holds W L) (k : ∀ b w', Holds w' (blk b [.pointer (some ⟨p, 0, none⟩)] 33 :: L) → R (.returned (.func (.func 95) #[] #[.pointer (some ⟨b, 0, none⟩)])) w') :
    Calls Tryz.prog 35 #[.pointer (some ⟨p, 0, none⟩)] W R := by
  have HK := Lib.hid k; clear k
  go_enter Tryz.func35, Tryz.ntmps35
  go_wp2_with (first | ((with_reducible refine wpl_absorb H ?_); clear H; (first | ((fail_if_success (have _t := q1)); generalize W.heap.size = q1) ); (try clear W); intro W H) )
  exact HK.out _ _ H
set_option maxRecDepth 100000 in
set_option maxHeartbeats 4000000 in
theorem sopen_k (fr mn : Nat) (h1 : fr + mn ≤ d.su.length) (h2 : 1 ≤ mn) (H : Holds W L) (hm : Pull (dkE g dv d) L L0)
    (hwl : d.wa.length ≤ 500000)
    (kS : ∀ d' s p v dv' w', openR d fr mn = (d', some s, 0) → Holds w' (stE p g v s :: dkE g dv' d' :: L0) → R (.returned (.tuple #[.pointer (some ⟨p, 0, none⟩), .int .i64 0])) w')
    (kN : ∀ d' e dv' w', openR d fr mn = (d', none, e) → Holds w' (dkE g dv' d' :: L0) → R (.returned (.tuple #[.pointer none, .int .i64 e])) w') :
    Calls Tryz.prog 7 #[.pointer (some ⟨g, 0, none⟩), .int .i64 fr, .int .i64 mn] W R := by
  have H2 := H.pull hm
  clear H hm
  have H := H2
  clear H2
  have KS := Lib.hid kS
  have KN := Lib.hid kN
  clear kS kN
  have ho := dk_ok' H.head
  have h4 := ho.n1
  have h0 : ((d.su.length : Int) == 0) = false := by rw [beq_eq_false_iff_ne]; omega
  have e1 : decide ((fr : Int) < 0) = false := by simp
  have e2 : decide ((mn : Int) < 1) = false := by simp; omega
  have e3 : decide ((d.su.length : Int) < fr) = false := by simp; omega
  have e4 : decide ((d.su.length : Int) - fr < mn) = false := by simp; omega
  have e5 := Lib.hid (wrapI (x := (d.su.length : Int) - (fr : Int)) (by omega) (by omega))
  have Ho := Lib.hid ho
  clear ho
  refine callsIn_wide.1 (callsIn_of_wp_marks (n := 3) (F := Fence.wide) Tryz.func7 rfl trivial ?_ rfl)
  refine wpIn_wide.2 ?_
  simp only [Tryz.ntmps7, List.size_toArray, List.length_cons, List.length_nil, Nat.reduceAdd, Nat.reduceSub, Array.replicate_succ, Array.replicate_zero, List.push_toArray, List.append_toArray, List.nil_append, List.cons_append]
  go_wp2_with (first | ((with_reducible refine wpl_absorb H ?_); clear H; (first | ((fail_if_success (have _t := q1)); generalize W.heap.size = q1) | ((fail_if_success (have _t := q2)); generalize W.heap.size = q2) | ((fail_if_success (have _t := q3)); generalize W.heap.size = q3) | ((fail_if_success (have _t := q4)); generalize W.heap.size = q4) ); (try clear W); intro W H) | ((with_reducible apply wpl_load H); (case hs => exact sc _ rfl); (case hw | hx => rfl); (case hm => (with_reducible repeat first | exact mH | apply mT)); (case hv => rfl)) | ((with_reducible apply wpl_store1 H); (case hs => exact sz_sc _ rfl); (case hw | hx => rfl); (case hy => (first | exact (rfl : _ = Value.pointer _) )); (case hm => (with_reducible repeat first | exact Upd.here)); (case h1 => rfl); (case hk => exact Nat.le_of_ble_eq_true rfl); clear H; (try clear W); intro W H; simp only [setL, List.set_cons_zero, List.set_cons_succ] at H) | ((with_reducible apply len_k H); (case hm => (with_reducible repeat first | exact Pull.here)); clear H; (try clear W); intro W H) | ((with_reducible apply regionF_k H); clear H; (try clear W); intro B W H))
  -- q1: the store; q2: its variable; q3: the bytes'; q4: the places'
  obtain ⟨X, hX⟩ : ∃ X : Nat → (Option Addr × Nat × Option Addr × Nat) → List Ent, X = fun j x => blk q2 [.pointer (some ⟨q1, 0, none⟩)] 33 :: blk q3 [.slice x.1 (64 * j) x.2.1] 50 :: ownE 5 1 (.slice x.1 (64 * j) x.2.1) (64 * j) (bvs (flatN d fr j)) ::
    blk q4 [.slice x.2.2.1 (dirtyN d fr j).length x.2.2.2] 77 :: ownE 3 1 (.slice x.2.2.1 (dirtyN d fr j).length x.2.2.2) (dirtyN d fr j).length (ivs (dirtyN d fr j)) :: L0 := ⟨_, rfl⟩
  have H0 : Holds W (regJ B q1 g [.int .i64 fr, .int .i64 mn, .int .i64 0, .slice none 0 0] dv d X 0 (none, 0, none, 0)) := by
    unfold regJ
    rw [hX]
    exact Reord.use ((H.add_nil 5 1).add_nil 3 1) (by
      simp only [Nat.mul_zero, dirtyN, flatN, List.length_nil]
      rw [show bvs [] = [] from rfl, show ivs [] = [] from rfl]
      ((repeat (with_reducible apply Reord.cons; (case p => (with_reducible repeat first | exact Pull.here | apply Pull.there)))); repeat (with_reducible exact Reord.rest)))
  refine (wpIn_wide (n := 3)).1 (wpIn_rangeFunc_H (α := Option Addr × Nat × Option Addr × Nat) (β := Nat) rfl (by decide) (gf := 95) (lb := #[.pointer (some ⟨B, 0, none⟩)]) rfl trivial (enters_of Tryz.func95 (by kernel_rfl) rfl)
    (fun j x => regJ B q1 g [.int .i64 fr, .int .i64 mn, .int .i64 0, .slice none 0 0] dv d X j x) (fun j x b => regY B q1 g [.int .i64 fr, .int .i64 mn, .int .i64 0, .slice none 0 0] dv d fr X j x b)
    (fun j x b => #[.int .i64 j, .slice (some ⟨b, 0, none⟩) 64 64]) (fun j => j < mn) (fun j => j = mn) (none, 0, none, 0) (fun _ _ _ => rfl) H0
    (fun l O hY W HW => region1_in h1 h4 X (none, 0, none, 0) 2 l (by decide) O (fun j x b W h hlt => hY j x b W h hlt) W HW) ?a₁ ?assign ?body ?done)
  case assign =>
    intro l j x b W K hK
    gi_wp2
    exact hK
  case body =>
    rintro l j ⟨A, c, A2, c2⟩ b O W HW hj
    unfold regY regJ at HW
    rw [hX] at HW
    simp only [List.cons_append] at HW
    obtain ⟨s, hs⟩ : ∃ s, d.sec (fr + j) = s := ⟨_, rfl⟩
    rw [show d.no[fr + j]?.getD [] = s from hs] at HW
    have hf : flatN d fr (j + 1) = flatN d fr j ++ s := by rw [flatN, hs]
    have hdl := dirtyN_len d fr j
    have Hf := Lib.hid hf
    have HX := Lib.hid hX
    have h3n : 1 ≤ 3 - 1 - 1 := by decide
    cases hz : s.any (· != 0) with
    | true =>
      have hd : dirtyN d fr (j + 1) = dirtyN d fr j ++ [j] := by rw [dirtyN, hs, hz, if_pos rfl]
      have Hd := Lib.hid hd
      have Hz := Lib.hid hz
      clear hf hX hz hd hs
      generalize dirtyN d fr j = D at *
      gi_wp2_with (first | ((with_reducible apply wplIn_load HW); (case hx => rfl); (case hm => (with_reducible repeat first | exact mH | apply mT)); (case hs => exact sc _ rfl); (case hv => rfl)) | ((with_reducible apply wplIn_app HW); (case hs | hx => rfl); (case ht => exact Tryz.underlying50); (case hinfo => exact inf_5); (case hm => (with_reducible repeat first | exact Pull.here | apply Pull.there)); (case hzs => rfl); (case hsz => decide); (case hr => exact gives_own (by (with_reducible repeat first | exact mH)) rfl); (case h1 => exact bvs_oneCell _); (case h63 => (simp only [maxLen]; omega)); (case hbytes => omega); clear HW; (try clear W); intro A3 n3 c3 W hn3 HW hle3 htop3; obtain rfl := hn3.out; clear hn3) | ((with_reducible apply wplIn_app HW); (case hs | hx => rfl); (case ht => exact Tryz.underlying77); (case hinfo => exact inf_3); (case hm => (with_reducible repeat first | exact Pull.here | apply Pull.there)); (case hzs => rfl); (case hsz => decide); (case hr => exact gives_blk (by (with_reducible repeat first | exact mH)) rfl (by omega)); (case h1 => (intro u hu; obtain rfl := List.mem_singleton.1 hu; rfl)); (case h63 => (simp only [maxLen]; omega)); (case hbytes => omega); clear HW; (try clear W); intro A4 n4 c4 W hn4 HW hle4 htop4; obtain rfl := hn4.out; clear hn4) | ((with_reducible apply wplIn_store1 HW); (case hx => rfl); (case hy => exact (rfl : _ = Value.slice _ _ _)); (case h1 => rfl); (case hm => (with_reducible repeat first | exact Upd.here | apply Upd.there)); (case hs => exact sz_sc _ rfl); (case hk => exact Nat.le_of_ble_eq_true rfl); clear HW; (try clear W); intro W HW; simp only [setL, List.set_cons_zero, List.set_cons_succ] at HW) | ((with_reducible apply wplIn_slice1 (vs := [.int .i64 (j : Int)]) HW); (case hx => rfl); (case ht => exact Tryz.underlying77); (case hinfo => exact inf_3); (case hzs | hl => rfl); (case h0 => decide); (case h24 => exact Nat.le_of_ble_eq_true rfl); clear HW; (try clear W); intro q5 W HW) | (refine And.intro trivial ?_; refine CallsIn.inRound _ (callsIn_wide.2 ?_); (with_reducible apply containsO_k (l := s)); (case H => exact HW); (case G => exact gives_own (by (with_reducible repeat first | exact mH | apply mT)) rfl); (case hn => omega); clear HW; (try clear W); intro W HW; rw [Hz.out]))
      refine ⟨(A3, c3, A4, c4), ?_⟩
      unfold regJ
      rw [HX.out]
      simp only [List.cons_append, Hf.out, Hd.out, bvs_append, List.length_append, List.length_singleton]
      rw [show 64 * (j + 1) = 64 * j + 64 from by omega, show ivs (D ++ [j]) = ivs D ++ [.int .i64 (j : Int)] from by unfold ivs; rw [List.map_append]; rfl]
      exact Reord.use HW (by ((repeat (with_reducible apply Reord.cons; (case p => (with_reducible repeat first | exact Pull.here | apply Pull.there)))); repeat (first | with_reducible exact Reord.rest | with_reducible apply Reord.drop)))
    | false =>
      have hd : dirtyN d fr (j + 1) = dirtyN d fr j := by rw [dirtyN, hs, hz, if_neg (by decide)]
      have Hd := Lib.hid hd
      have Hz := Lib.hid hz
      clear hf hX hz hd hs
      gi_wp2_with (first | ((with_reducible apply wplIn_load HW); (case hx => rfl); (case hm => (with_reducible repeat first | exact mH | apply mT)); (case hs => exact sc _ rfl); (case hv => rfl)) | ((with_reducible apply wplIn_app HW); (case hs | hx => rfl); (case ht => exact Tryz.underlying50); (case hinfo => exact inf_5); (case hm => (with_reducible repeat first | exact Pull.here | apply Pull.there)); (case hzs => rfl); (case hsz => decide); (case hr => exact gives_own (by (with_reducible repeat first | exact mH)) rfl); (case h1 => exact bvs_oneCell _); (case h63 => (simp only [maxLen]; omega)); (case hbytes => omega); clear HW; (try clear W); intro A3 n3 c3 W hn3 HW hle3 htop3; obtain rfl := hn3.out; clear hn3) | ((with_reducible apply wplIn_store1 HW); (case hx => rfl); (case hy => exact (rfl : _ = Value.slice _ _ _)); (case h1 => rfl); (case hm => (with_reducible repeat first | exact Upd.here | apply Upd.there)); (case hs => exact sz_sc _ rfl); (case hk => exact Nat.le_of_ble_eq_true rfl); clear HW; (try clear W); intro W HW; simp only [setL, List.set_cons_zero, List.set_cons_succ] at HW) | (refine And.intro trivial ?_; refine CallsIn.inRound _ (callsIn_wide.2 ?_); (with_reducible apply containsO_k (l := s)); (case H => exact HW); (case G => exact gives_own (by (with_reducible repeat first | exact mH | apply mT)) rfl); (case hn => omega); clear HW; (try clear W); intro W HW; rw [Hz.out]))
      refine ⟨(A3, c3, A2, c2), ?_⟩
      unfold regJ
      rw [HX.out]
      simp only [List.cons_append, Hf.out, Hd.out, bvs_append]
      rw [show 64 * (j + 1) = 64 * j + 64 from by omega]
      exact Reord.use HW (by ((repeat (with_reducible apply Reord.cons; (case p => (with_reducible repeat first | exact Pull.here | apply Pull.there)))); repeat (first | with_reducible exact Reord.rest | with_reducible apply Reord.drop)))
  case done =>
    rintro j ⟨A, c, A2, c2⟩ S O W rfl HW
    replace HW := holds_mid (b := []) HW
    unfold regJ at HW
    rw [hX] at HW
    simp only [List.cons_append] at HW
    clear hX H0
    have H := HW
    clear HW
    obtain ⟨L1, hL1⟩ : ∃ L1, L1 = L0 ++ O := ⟨_, rfl⟩
    rw [← hL1] at H
    replace KS : Hid (∀ d' s p v dv' w', openR d fr j = (d', some s, 0) → Holds w' (stE p g v s :: dkE g dv' d' :: L1) → R (.returned (.tuple #[.pointer (some ⟨p, 0, none⟩), .int .i64 0])) w') := Lib.hid fun d' s p v dv' w' h1 h2 => KS.out d' s p v dv' w' h1 (holds_dropR (A := [_, _]) (O := O) (by rw [← hL1]; exact h2))
    replace KN : Hid (∀ d' e dv' w', openR d fr j = (d', none, e) → Holds w' (dkE g dv' d' :: L1) → R (.returned (.tuple #[.pointer none, .int .i64 e])) w') := Lib.hid fun d' e dv' w' h1 h2 => KN.out d' e dv' w' h1 (holds_dropR (A := [_]) (O := O) (by rw [← hL1]; exact h2))
    clear hL1
    have hfl := flatN_len Ho.out fr j h1
    have hro := readR_ok (j + 1) 0 (flatN d fr j) j (by omega)
    have hF : (flatN d fr j).length < 64 * (j + 1) := by omega
    have hx6 : (flatN d fr j).length ≤ 262144 := by omega
    have hdl := dirtyN_len d fr j
    obtain ⟨ls, hls⟩ : ∃ ls, (readR (j + 1) 0 (flatN d fr j)).1 = ls := ⟨_, rfl⟩
    obtain ⟨en, hen⟩ : ∃ en, (readR (j + 1) 0 (flatN d fr j)).2 = en := ⟨_, rfl⟩
    rw [hls, hen] at hro
    have Hls := Lib.hid hls
    have Hen := Lib.hid hen
    have hen4 : en ≤ 1000000 := by omega
    have HF := Lib.hid hF
    have Hx6 := Lib.hid hx6
    have Hl256 := Lib.hid hro.2.2
    have hlen := hro.2.1
    have henj := hro.1
    have HD : Hid ((dirtyN d fr j).length ≤ 1000000) := Lib.hid (by omega)
    have HD2 : Hid ((keptN en (dirtyN d fr j)).length ≤ 1000000) := Lib.hid (by have := keptN_le en (dirtyN d fr j); omega)
    obtain ⟨D, hDk⟩ : ∃ D, keptN en (dirtyN d fr j) = D := ⟨_, rfl⟩
    have HDk := Lib.hid hDk
    have hDlen : D.length ≤ j := by rw [← hDk]; exact Nat.le_trans (keptN_le _ _) hdl
    have Hlt : Hid (∀ i ∈ D, i < j) := Lib.hid fun i hi => dirtyN_lt d fr j i (List.mem_filter.1 (by rw [← hDk] at hi; exact hi)).1
    have hopen : openR d fr j = if D.any (fun i => decide (en + 5 ≤ i)) then (d, none, 4)
        else if (wipe fr D d).2 = 0 then (if (wipe fr D d).1.sync.2 = 0 then ((wipe fr D d).1.sync.1, some ⟨fr, j, en, ls⟩, 0) else ((wipe fr D d).1.sync.1, none, (wipe fr D d).1.sync.2))
        else ((wipe fr D d).1, none, (wipe fr D d).2) := by
      have g1 : regE d fr j = en := hen
      have g2 : regR d fr j = ls := hls
      have g3 : regD d fr j = D := by unfold regD; rw [g1]; exact hDk
      unfold openR
      rw [g1, g2, g3]
    have HO := Lib.hid hopen
    clear hls hen hro hF hx6 hfl hdl hDk hopen
    cases hbad : D.any (fun i => decide (en + 5 ≤ i)) with
    | true =>
      have Hbad := Lib.hid hbad
      clear hbad
      have hop := HO.out
      rw [Hbad.out, if_pos rfl] at hop
      have Hop := Lib.hid hop
      clear hop
      go_wp2_with (first | ((with_reducible apply wpl_load H); (case hs => exact sc _ rfl); (case hw | hx => rfl); (case hm => (with_reducible repeat first | exact mH | apply mT)); (case hv => rfl)) | ((with_reducible apply wpl_store1 H); (case hs => exact sz_sc _ rfl); (case hw | hx => rfl); (case hy => (first | exact (rfl : _ = Value.slice _ _ _) )); (case hm => (with_reducible repeat first | exact Upd.here | apply Upd.there)); (case h1 => rfl); (case hk => exact Nat.le_of_ble_eq_true rfl); clear H; (try clear W); intro W H; simp only [setL, List.set_cons_zero, List.set_cons_succ] at H) | ((with_reducible apply sread_k (j + 1) HF.out Hx6.out); (case H => exact H); (case hm => (with_reducible repeat first | exact Pull.here | apply Pull.there)); (case G => exact gives_own (by (with_reducible repeat first | exact mH | apply mT)) rfl); clear H; (try clear W); intro A3 c3 q3' W H; rw [Hls.out, Hen.out] at H) | ((with_reducible apply delete_k (l := dirtyN d fr j) (en := en) rfl HD.out); (case H => exact H); (case hm => (with_reducible repeat first | exact Pull.here | apply Pull.there)); (case hB => (with_reducible repeat first | exact mH | apply mT)); (case hp => (with_reducible repeat first | exact mH)); clear H; (try clear W); intro W H; rw [HDk.out] at H ⊢) | ((with_reducible apply contains3_k (l := D) hen4 rfl); (case H => exact H); (case hn => omega); (case G => exact gives_own (by (with_reducible repeat first | exact mH)) rfl); (case hB => (with_reducible repeat first | exact mH | apply mT)); (case hp => (with_reducible repeat first | exact mH | apply mT)); clear H; (try clear W); intro W H; rw [Hbad.out]))
      refine ret_mark2 rfl rfl H (by (with_reducible repeat first | exact Pull.here | apply Pull.there)) rfl rfl fun w' h => ?_
      exact KN.out _ _ _ _ Hop.out (Reord.use h (by ((repeat (with_reducible apply Reord.cons; (case p => (with_reducible repeat first | exact Pull.here | apply Pull.there)))); repeat (first | with_reducible exact Reord.rest | with_reducible apply Reord.drop))))
    | false =>
      have Hbad := Lib.hid hbad
      have hop := HO.out
      rw [hbad, if_neg (by decide)] at hop
      have Hop := Lib.hid hop
      clear hop hbad
      go_wp2_with (first | ((with_reducible apply wpl_load H); (case hs => exact sc _ rfl); (case hw | hx => rfl); (case hm => (with_reducible repeat first | exact mH | apply mT)); (case hv => rfl)) | ((with_reducible apply wpl_store1 H); (case hs => exact sz_sc _ rfl); (case hw | hx => rfl); (case hy => (first | exact (rfl : _ = Value.slice _ _ _) )); (case hm => (with_reducible repeat first | exact Upd.here | apply Upd.there)); (case h1 => rfl); (case hk => exact Nat.le_of_ble_eq_true rfl); clear H; (try clear W); intro W H; simp only [setL, List.set_cons_zero, List.set_cons_succ] at H) | ((with_reducible apply sread_k (j + 1) HF.out Hx6.out); (case H => exact H); (case hm => (with_reducible repeat first | exact Pull.here | apply Pull.there)); (case G => exact gives_own (by (with_reducible repeat first | exact mH | apply mT)) rfl); clear H; (try clear W); intro A3 c3 q3' W H; rw [Hls.out, Hen.out] at H) | ((with_reducible apply delete_k (l := dirtyN d fr j) (en := en) rfl HD.out); (case H => exact H); (case hm => (with_reducible repeat first | exact Pull.here | apply Pull.there)); (case hB => (with_reducible repeat first | exact mH | apply mT)); (case hp => (with_reducible repeat first | exact mH)); clear H; (try clear W); intro W H; rw [HDk.out] at H ⊢) | ((with_reducible apply contains3_k (l := D) hen4 rfl); (case H => exact H); (case hn => omega); (case G => exact gives_own (by (with_reducible repeat first | exact mH)) rfl); (case hB => (with_reducible repeat first | exact mH | apply mT)); (case hp => (with_reducible repeat first | exact mH | apply mT)); clear H; (try clear W); intro W H; rw [Hbad.out]))
      go_loopw [71] (fun iv wr => ∃ (i : Nat) (dv' : Dv) (d' : Dd), i ≤ D.length ∧ iv = .int .i64 i ∧ wipe fr D d = wipe fr (D.drop i) d' ∧ d'.su = d.su ∧ d'.wa.length ≤ d.wa.length + i ∧ Holds wr (ownE 3 1 (.slice A2 D.length c2) D.length (ivs D) :: blk q2 [.pointer (some ⟨q1, 0, none⟩)] 33 :: blk q1 [.pointer (some ⟨g, 0, none⟩), .int .i64 fr, .int .i64 j, .int .i64 en, .slice A3 ls.length c3] 76 ::
        ownE 50 1 (.slice A3 ls.length c3) ls.length (List.zipWith rh q3' ls) :: srsE q3' ls :: dkE g dv' d' :: objE S (.deferred (some [])) :: L1)) (fun iv _ => D.length - (intOf iv).toNat)
      case atStart => exact ⟨0, dv, d, by omega, rfl, rfl, rfl, by omega, Reord.use H (by ((repeat (with_reducible apply Reord.cons; (case p => (with_reducible repeat first | exact Pull.here | apply Pull.there)))); repeat (first | with_reducible exact Reord.rest | with_reducible apply Reord.drop)))⟩
      case round =>
        clear H W
        obtain ⟨i, dv', d', hi, rfl, hw, hsu, hwa, H⟩ := hrel
        rename World => W
        have Hw := Lib.hid hw
        have Hsu := Lib.hid hsu
        clear hw hsu
        by_cases hlt : i < D.length
        · have hii : (i : Int) < D.length := by omega
          obtain ⟨x, hx⟩ : ∃ x, D[i]? = some x := ⟨_, List.getElem?_eq_getElem hlt⟩
          have hxj := Hlt.out x (List.mem_of_getElem? hx)
          have hdr : D.drop i = x :: D.drop (i + 1) := drop_cons' hx
          obtain ⟨d2, e, hz⟩ : ∃ d2 e, d'.write ((fr + x : Nat) : Int) [] = (d2, e) := ⟨_, _, rfl⟩
          have hwn : wipe fr D d = if e = 0 then wipe fr (D.drop (i + 1)) d2 else (d2, e) := by rw [Hw.out, hdr, wipe_cons, hz]
          have hsu2 : d2.su = d.su := by have := write_su d' ((fr + x : Nat) : Int) []; rw [hz] at this; rw [this, Hsu.out]
          have hwa2 : d2.wa.length ≤ d.wa.length + (i + 1) := by have := write_wa d' ((fr + x : Nat) : Int) []; rw [hz] at this; simp only at this; omega
          obtain ⟨ab, rfl⟩ := own_some H.head (by omega)
          have Hv := Lib.hid (ivs_at hx)
          have Hz := Lib.hid hz
          have Hwn := Lib.hid hwn
          have Hsu2 := Lib.hid hsu2
          have e1 := Lib.hid (wrapI (x := (fr : Int) + (x : Int)) (by omega) (by omega))
          have hwl' : Hid (d'.wa.length ≤ 1000000) := Lib.hid (by omega)
          clear hx hdr hz hwn hsu2
          by_cases he : e = 0
          · subst he
            have hwn := Hwn.out
            rw [if_pos rfl] at hwn
            have Hwn2 := Lib.hid hwn
            clear hwn
            go_wp2_with (first | ((with_reducible apply wpl_loadVs0 (j := i) (v := .int .i64 (x : Int)) H); (case hs => exact sc _ rfl); (case hw | hx => rfl); (case hm => exact gives_own (by (with_reducible repeat first | exact mH)) rfl); (case hj => omega); (case hv => exact Hv.out)) | ((with_reducible apply dwrite_at (fr + x) []); (case hN => first | rfl ); (case hz => exact Hz.out); (case hlen => exact hwl'.out); (case H => exact H); (case hm => (with_reducible repeat first | exact Pull.here | apply Pull.there)); (case hr => exact gives_nilB); clear H; (try clear W); intro dv2 W H))
            exact ⟨⟨i + 1, dv2, d2, by omega, congrArg (Value.int .i64) (by omega), Hwn2.out, Hsu2.out, hwa2, Reord.use H (by ((repeat (with_reducible apply Reord.cons; (case p => (with_reducible repeat first | exact Pull.here | apply Pull.there)))); repeat (with_reducible exact Reord.rest)))⟩, by simp only [intOf]; omega⟩
          · have hwn := Hwn.out
            rw [if_neg he] at hwn
            have Hwn2 := Lib.hid hwn
            have heb : (e == 0) = false := by rw [beq_eq_false_iff_ne]; exact he
            clear hwn
            go_wp2_with (first | ((with_reducible apply wpl_loadVs0 (j := i) (v := .int .i64 (x : Int)) H); (case hs => exact sc _ rfl); (case hw | hx => rfl); (case hm => exact gives_own (by (with_reducible repeat first | exact mH)) rfl); (case hj => omega); (case hv => exact Hv.out)) | ((with_reducible apply dwrite_at (fr + x) []); (case hN => first | rfl ); (case hz => exact Hz.out); (case hlen => exact hwl'.out); (case H => exact H); (case hm => (with_reducible repeat first | exact Pull.here | apply Pull.there)); (case hr => exact gives_nilB); clear H; (try clear W); intro dv2 W H))
            refine ret_mark2 rfl rfl H (by (with_reducible repeat first | exact Pull.here | apply Pull.there)) rfl rfl fun w' h => ?_
            have hop := Hop.out
            rw [Hwn2.out, if_neg (show ¬ (d2, e).2 = 0 from he)] at hop
            exact KN.out _ _ _ _ hop (Reord.use h (by ((repeat (with_reducible apply Reord.cons; (case p => (with_reducible repeat first | exact Pull.here)))); repeat (first | with_reducible exact Reord.rest | with_reducible apply Reord.drop))))
        · obtain rfl : i = D.length := by omega
          obtain ⟨d2, e, hz⟩ : ∃ d2 e, d'.sync = (d2, e) := ⟨_, _, rfl⟩
          have hwn : wipe fr D d = (d', 0) := by rw [Hw.out, List.drop_length, wipe_nil]
          have hop := Hop.out
          rw [hwn, if_pos rfl] at hop
          simp only [hz] at hop
          have Hz := Lib.hid hz
          clear hwn hz
          by_cases he : e = 0
          · subst he
            rw [if_pos rfl] at hop
            have Hop2 := Lib.hid hop
            clear hop
            go_wp2_with (first | ((with_reducible apply wpl_load H); (case hs => exact sc _ rfl); (case hw | hx => rfl); (case hm => (with_reducible repeat first | exact mH | apply mT)); (case hv => rfl)) | ((with_reducible apply dsync_c); (case hz => exact Hz.out); (case H => exact H); (case hm => (with_reducible repeat first | exact Pull.here | apply Pull.there)); clear H; (try clear W); intro dv2 W H))
            refine ret_mark2 rfl rfl H (by (with_reducible repeat first | exact Pull.here | apply Pull.there)) rfl rfl fun w' h => ?_
            have h4 := Ho.out.n1
            have hs : Holds w' (blk q1 [.pointer (some ⟨g, 0, none⟩), .int .i64 fr, .int .i64 j, .int .i64 en, .slice A3 ls.length c3] 76 ::
               ownE 50 1 (.slice A3 ls.length c3) ls.length (List.zipWith rh q3' ls) :: srsE q3' ls :: dkE g dv2 d2 :: L1) := Reord.use h (by ((repeat (with_reducible apply Reord.cons; (case p => (with_reducible repeat first | exact Pull.here | apply Pull.there)))); repeat (first | with_reducible exact Reord.rest | with_reducible apply Reord.drop)))
            exact KS.out _ _ _ _ _ _ Hop2.out (st_shut ⟨A3, c3, q3'⟩ ⟨fr, j, en, ls⟩ hs ⟨by simp only; omega, henj, hlen, Hl256.out⟩)
          · rw [if_neg he] at hop
            have Hop2 := Lib.hid hop
            have heb : (e == 0) = false := by rw [beq_eq_false_iff_ne]; exact he
            clear hop
            go_wp2_with (first | ((with_reducible apply dsync_c); (case hz => exact Hz.out); (case H => exact H); (case hm => (with_reducible repeat first | exact Pull.here | apply Pull.there)); clear H; (try clear W); intro dv2 W H))
            refine ret_mark2 rfl rfl H (by (with_reducible repeat first | exact Pull.here | apply Pull.there)) rfl rfl fun w' h => ?_
            exact KN.out _ _ _ _ Hop2.out (Reord.use h (by ((repeat (with_reducible apply Reord.cons; (case p => (with_reducible repeat first | exact Pull.here)))); repeat (first | with_reducible exact Reord.rest | with_reducible apply Reord.drop))))
end
end Go.Proofs.YtdnioigcgggdbaaGreatDoor
