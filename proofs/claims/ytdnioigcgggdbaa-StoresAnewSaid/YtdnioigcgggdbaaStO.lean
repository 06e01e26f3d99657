/-
  stores: the walk of StoresAnew.
-/
import Derived.Test.YtdnioigcgggdbaaStN2
set_option linter.unusedVariables false
set_option linter.unusedSimpArgs false
namespace Go.Proofs.Ytdnioigcgggdbaa
open Go.RowKit
section
theorem sameL_t {W : World} {L : List Ent} {R : Ending → World → Prop} {A1 A2 : Option Addr} {n1 c1 n2 c2 : Nat} {hs1 hs2 : List Value} {l : List (List UInt8)} (H : Holds W L) (h1 : RdL L A1 n1 c1 hs1 l) (h2 : RdL L A2 n2 c2 hs2 l) (k : ∀ w', Holds w' L → R (.returned (.bool true)) w') :
    Calls Try.prog 23 #[.slice A1 n1 c1, .slice A2 n2 c2] W R :=
  sameL_k h1 h2 H fun w' h => by rw [decide_eq_true rfl]; exact k w' h
theorem sopen_nw {W : World} {L L0 : List Ent} {R : Ending → World → Prop} {g : Nat} {dv : Dv} {N M : Int} {l : List (List UInt8)} (fr mn : Nat) (ls : List (List UInt8)) (hN : N = (fr : Int)) (hM : M = (mn : Int)) (h2 : 1 ≤ mn) (hb : ∀ b ∈ ls, b.length ≤ 256) (H : Holds W L) (hm : Pull (dkE g dv (dnew l)) L L0) (h1 : fr + mn ≤ l.length) (hC : Clean l fr mn (sects 0 ls))
    (k : ∀ p v dv' w', Holds w' (stE p g v (sdOf fr mn ls) :: dkE g dv' (dnew l) :: L0) → R (.returned (.tuple #[.pointer (some ⟨p, 0, none⟩), .int .i64 0])) w') :
    Calls Try.prog 15 #[.pointer (some ⟨g, 0, none⟩), .int .i64 N, .int .i64 M] W R :=
  sopen_cl fr mn ls hN hM h1 h2 (free_new _) (Nat.zero_le _) hC hb H hm k
set_option maxRecDepth 100000 in
set_option maxHeartbeats 4000000 in
theorem storesAnew_walk (W0 : World) {A : Option Addr} {n c : Nat} {hs : List Value} {ls : List (List UInt8)} (hr : Rd W0 1 A n c hs) (hl : ls.length = n)
    (hat : ∀ (j : Nat) (l : List UInt8), ls[j]? = some l → ∃ (B : Option Addr) (m k : Nat), hs[j]? = some (Value.slice B m k) ∧ Rd W0 1 B m k (bvs l))
    {Bk : Option Addr} {mk ck : Nat} {kb : List Bool} (hk1 : Rd W0 1 Bk mk ck (kb.map Value.bool)) (a0 : Int) (w0 : (Lit.int .u8 a0).wf = true) :
    Calls Try.prog 7 #[.slice A n c, .slice Bk mk ck, .int .u8 a0] W0 fun e w' => e = .returned (.bool true) ∧ Ext W0 w' := by
  obtain ⟨x0, rfl⟩ : ∃ x : UInt8, a0 = ((x.toNat : Nat) : Int) := ⟨_, (u8_of_wf w0).symm⟩
  have h1 := argL_base hr hl hat
  have HK1 : Hid (∀ L, base W0 ∈ L → Gives L fun w => Rd w 1 Bk mk ck (kb.map Value.bool)) := Lib.hid fun L hm w H => hk1.ext (H.all _ hm)
  have H := holds_base W0
  have HR : Hid (∀ w', Holds w' [base W0] → (Ending.returned (.bool true) = .returned (.bool true) ∧ Ext W0 w')) := Lib.hid fun w' h => ⟨rfl, h.head⟩
  generalize hB : base W0 = B0 at H HR h1 HK1
  generalize hRR : (fun (e : Ending) (w' : World) => e = .returned (.bool true) ∧ Ext W0 w') = R
  replace HR : Hid (∀ w', Holds w' [B0] → R (.returned (.bool true)) w') := Lib.hid fun w' h => by subst hRR; exact HR.out w' h
  have hle := hr.le
  have htop := hr.top
  unfold maxLen at htop
  clear hRR hB hr hat w0 hk1
  generalize W0 = W at H ⊢
  by_cases hgo : ¬ (smallB ls = true ∧ mk ≤ 100)
  · cases hsm : smallB ls with
    | false =>
      have Hsm := Lib.hid hsm
      clear hsm hgo
      go_enter Try.func7, Try.ntmps7
      go_wp2_with (first | go_big_skip | ((with_reducible refine wpl_absorb H ?_); clear H; (first | ((fail_if_success (have _t := q1)); generalize W.heap.size = q1) | ((fail_if_success (have _t := q2)); generalize W.heap.size = q2) | ((fail_if_success (have _t := q3)); generalize W.heap.size = q3) | ((fail_if_success (have _t := q4)); generalize W.heap.size = q4) | ((fail_if_success (have _t := q5)); generalize W.heap.size = q5) | ((fail_if_success (have _t := q6)); generalize W.heap.size = q6) | ((fail_if_success (have _t := q7)); generalize W.heap.size = q7) | ((fail_if_success (have _t := q8)); generalize W.heap.size = q8) | ((fail_if_success (have _t := q9)); generalize W.heap.size = q9) | generalize W.heap.size = q0); (try clear W); intro W H) | ((with_reducible refine wpl_drew H ?_); clear H; (try clear W); intro W H) | ((with_reducible refine wpl_drewN H ?_); clear H; (try clear W); intro W H) | ((with_reducible apply wpl_load H); (case hs => exact sc _ rfl); (case hw => rfl); (case hx => rfl); (case hm => (repeat (first | with_reducible exact mH | with_reducible assumption | with_reducible apply mT))); (case hv => rfl)) | ((with_reducible apply alive_k H); clear H; (try clear W); intro W H) | ((with_reducible apply small_k (ls := ls)); (case H => exact H); (case h1 => exact h1.rdl (by (repeat (first | with_reducible exact mH | with_reducible assumption | with_reducible apply mT)))); clear H; (try clear W); intro W H; rw [Hsm.out]))
      exact HR.out _ (Reord.use H (by ((repeat (with_reducible apply Reord.cons; (case p => (repeat (first | with_reducible exact Pull.here | with_reducible apply Pull.there))))); repeat (first | with_reducible exact Reord.rest | with_reducible apply Reord.drop))))
    | true =>
      have Hsm := Lib.hid hsm
      have hm1i : decide ((100 : Int) < (mk : Int)) = true := decide_eq_true (by
        have : ¬ mk ≤ 100 := fun h => hgo ⟨hsm, h⟩
        omega)
      clear hsm hgo
      go_enter Try.func7, Try.ntmps7
      go_wp2_with (first | go_big_skip | ((with_reducible refine wpl_absorb H ?_); clear H; (first | ((fail_if_success (have _t := q1)); generalize W.heap.size = q1) | ((fail_if_success (have _t := q2)); generalize W.heap.size = q2) | ((fail_if_success (have _t := q3)); generalize W.heap.size = q3) | ((fail_if_success (have _t := q4)); generalize W.heap.size = q4) | ((fail_if_success (have _t := q5)); generalize W.heap.size = q5) | ((fail_if_success (have _t := q6)); generalize W.heap.size = q6) | ((fail_if_success (have _t := q7)); generalize W.heap.size = q7) | ((fail_if_success (have _t := q8)); generalize W.heap.size = q8) | ((fail_if_success (have _t := q9)); generalize W.heap.size = q9) | generalize W.heap.size = q0); (try clear W); intro W H) | ((with_reducible refine wpl_drew H ?_); clear H; (try clear W); intro W H) | ((with_reducible refine wpl_drewN H ?_); clear H; (try clear W); intro W H) | ((with_reducible apply wpl_load H); (case hs => exact sc _ rfl); (case hw => rfl); (case hx => rfl); (case hm => (repeat (first | with_reducible exact mH | with_reducible assumption | with_reducible apply mT))); (case hv => rfl)) | ((with_reducible apply alive_k H); clear H; (try clear W); intro W H) | ((with_reducible apply small_k (ls := ls)); (case H => exact H); (case h1 => exact h1.rdl (by (repeat (first | with_reducible exact mH | with_reducible assumption | with_reducible apply mT)))); clear H; (try clear W); intro W H; rw [Hsm.out]))
      exact HR.out _ (Reord.use H (by ((repeat (with_reducible apply Reord.cons; (case p => (repeat (first | with_reducible exact Pull.here | with_reducible apply Pull.there))))); repeat (first | with_reducible exact Reord.rest | with_reducible apply Reord.drop))))
  · obtain ⟨hsm, hm1⟩ := Classical.not_not.1 hgo
    clear hgo
    obtain ⟨hs30, hs6⟩ := smallB_256 hsm
    have Hsm := Lib.hid hsm
    have Hs6 := Lib.hid hs6
    have hm1i : decide ((100 : Int) < (mk : Int)) = false := decide_eq_false (by omega)
    have HT : Hid ((wrap64 ((x0.toNat : Nat) : Int)).tmod 4 = ((x0.toNat % 4 : Nat) : Int)) := Lib.hid (wrap64_u8 x0 4 (by omega) 4 rfl)
    have hT4 : x0.toNat % 4 ≤ 3 := by omega
    generalize hTT : x0.toNat % 4 = T at *
    clear hsm hs6 hTT
    go_enter Try.func7, Try.ntmps7
    go_wp2_with (first | go_big_skip | ((with_reducible refine wpl_absorb H ?_); clear H; (first | ((fail_if_success (have _t := q1)); generalize W.heap.size = q1) | ((fail_if_success (have _t := q2)); generalize W.heap.size = q2) | ((fail_if_success (have _t := q3)); generalize W.heap.size = q3) | ((fail_if_success (have _t := q4)); generalize W.heap.size = q4) | ((fail_if_success (have _t := q5)); generalize W.heap.size = q5) | ((fail_if_success (have _t := q6)); generalize W.heap.size = q6) | ((fail_if_success (have _t := q7)); generalize W.heap.size = q7) | ((fail_if_success (have _t := q8)); generalize W.heap.size = q8) | ((fail_if_success (have _t := q9)); generalize W.heap.size = q9) | generalize W.heap.size = q0); (try clear W); intro W H) | ((with_reducible refine wpl_drew H ?_); clear H; (try clear W); intro W H) | ((with_reducible refine wpl_drewN H ?_); clear H; (try clear W); intro W H) | ((with_reducible apply wpl_load H); (case hs => exact sc _ rfl); (case hw => rfl); (case hx => rfl); (case hm => (repeat (first | with_reducible exact mH | with_reducible assumption | with_reducible apply mT))); (case hv => rfl)) | ((with_reducible apply alive_k H); clear H; (try clear W); intro W H) | ((with_reducible apply small_k (ls := ls)); (case H => exact H); (case h1 => exact h1.rdl (by (repeat (first | with_reducible exact mH | with_reducible assumption | with_reducible apply mT)))); clear H; (try clear W); intro W H; rw [Hsm.out]) | ((with_reducible apply new_n 160); (case hN => rfl); (case h0 => decide); (case h1 => decide); (case H => exact H); clear H; (try clear W); intro g dv0 W H) | ((with_reducible apply sopen_cl 0 160 []); (case hN => rfl); (case hM => rfl); (case H => exact H); (case hm => (repeat (first | with_reducible exact Pull.here | with_reducible apply Pull.there))); (case h1 => decide); (case h2 => decide); (case hf => exact free_new _); (case hwa => exact Nat.zero_le _); (case hC => exact clean_new 160 0 160 (by decide)); (case hb => exact nil_256); clear H; (try clear W); intro p v0 dv1 W H))
    have hk0 : Kp (dnew (List.replicate 160 zsec)) 0 160 [] := Kp.new _ (clean_new 160 0 160 (by decide)) nil_256
    go_loopw [11] (fun iv wr => ∃ (i : Nat) (d : Dd) (v : Sv) (dv : Dv), i ≤ n ∧ iv = .int .i64 i ∧ Kp d 0 160 (ls.take i) ∧ d.no.length = 160 ∧ Holds wr (stE p g v (sdOf 0 160 (ls.take i)) :: dkE g dv d :: [B0])) (fun iv _ => n - (intOf iv).toNat)
    case atStart => exact ⟨0, dnew (List.replicate 160 zsec), v0, dv1, by omega, rfl, hk0, by simp only [dnew, List.length_replicate], H⟩
    case round =>
      clear H W hk0
      obtain ⟨i, d, v, dv, hi, rfl, hkp, h160, H⟩ := hrel
      rename World => W
      have Hkp := Lib.hid hkp
      have H160 := Lib.hid h160
      have Hwa : Hid (d.wa.length ≤ 500000) := Lib.hid (by have := hkp.wa1; omega)
      by_cases hlt : i < n
      · clear hkp h160
        have hii : (i : Int) < n := by omega
        obtain ⟨x, hx⟩ : ∃ x, ls[i]? = some x := ⟨_, List.getElem?_eq_getElem (by omega)⟩
        obtain ⟨B, m, cb, hh, gb⟩ := h1.at_ i x hx
        have hxm := (gb _ (by (repeat (first | with_reducible exact mH | with_reducible assumption | with_reducible apply mT))) W H).blen
        have hm6 : m ≤ 256 := by rw [← hxm]; exact Hs6.out x (List.mem_of_getElem? hx)
        obtain ⟨a1, o1, rfl, -⟩ := (h1.head _ (by (repeat (first | with_reducible exact mH | with_reducible assumption | with_reducible apply mT))) W H).at_ (by omega)
        have HGB := Lib.hid gb
        have Hh := Lib.hid hh
        have Htk := Lib.hid (take_snoc hx)
        clear hh hx gb
        go_wp2_with (first | go_big_skip | ((with_reducible refine wpl_absorb H ?_); clear H; (first | ((fail_if_success (have _t := q1)); generalize W.heap.size = q1) | ((fail_if_success (have _t := q2)); generalize W.heap.size = q2) | ((fail_if_success (have _t := q3)); generalize W.heap.size = q3) | ((fail_if_success (have _t := q4)); generalize W.heap.size = q4) | ((fail_if_success (have _t := q5)); generalize W.heap.size = q5) | ((fail_if_success (have _t := q6)); generalize W.heap.size = q6) | ((fail_if_success (have _t := q7)); generalize W.heap.size = q7) | ((fail_if_success (have _t := q8)); generalize W.heap.size = q8) | ((fail_if_success (have _t := q9)); generalize W.heap.size = q9) | generalize W.heap.size = q0); (try clear W); intro W H) | ((with_reducible refine wpl_drew H ?_); clear H; (try clear W); intro W H) | ((with_reducible refine wpl_drewN H ?_); clear H; (try clear W); intro W H) | ((with_reducible apply wpl_load H); (case hs => exact sc _ rfl); (case hw => rfl); (case hx => rfl); (case hm => (repeat (first | with_reducible exact mH | with_reducible assumption | with_reducible apply mT))); (case hv => rfl)) | ((with_reducible apply wpl_loadVs (o := o1) (j := i) (v := .slice B m cb) H); (case hs => exact sc _ rfl); (case hw => rfl); (case hx => rfl); (case hm => exact h1.head _ (by (repeat (first | with_reducible exact mH | with_reducible assumption | with_reducible apply mT)))); (case hj => omega); (case hv => exact Hh.out)) | ((with_reducible apply sadd_f (b := x) 0 160 (ls.take i)); (case H => exact H); (case hm => (repeat (first | with_reducible exact Pull.here | with_reducible apply Pull.there))); (case hm2 => (repeat (first | with_reducible exact Pull.here | with_reducible apply Pull.there))); (case hf => exact Hkp.out.free); (case hC => exact Hkp.out.cl); (case hb6 => exact take_256 Hs6.out i); (case hm6 => exact hm6); (case hroom => exact room_take (x := x) Hs6.out hm6 (by omega) (by decide)); (case hwa => exact Hwa.out); (case G => exact HGB.out _ (by (repeat (first | with_reducible exact mH | with_reducible assumption | with_reducible apply mT)))); clear H; (try clear W); intro d2 v2 dv2 W hkp2 hw2 hO2 H; rw [← Htk.out] at hkp2 H; have Hkp2 := Lib.hid hkp2; have HO2 := Lib.hid hO2; clear hkp2 hw2 hO2))
        exact ⟨⟨i + 1, d2, v2, dv2, by omega, congrArg (Value.int .i64) (by omega), Hkp2.out, HO2.out.su H160.out, Reord.use H (by ((repeat (with_reducible apply Reord.cons; (case p => (repeat (first | with_reducible exact Pull.here | with_reducible apply Pull.there))))); repeat (first | with_reducible exact Reord.rest | with_reducible apply Reord.drop)))⟩, by simp only [intOf]; omega⟩
      · obtain rfl : i = n := by omega
        rw [List.take_of_length_le (by omega)] at hkp
        obtain ⟨l1, hl1, hT1⟩ := hkp.fail kb
        have hP : (∀ (j : Nat) (y : List UInt8), l1[j]? = some y → ls[j]? = some y) ∧ ∀ b ∈ l1, b.length ≤ 256 := by
          rcases hl1 with rfl | ⟨hw, b, hb⟩
          · exact ⟨fun _ _ h => h, hkp.b6⟩
          · refine ⟨fun j y hj => ?_, fun y hy => hkp.b6 y (by rw [hb]; exact List.mem_append_left _ hy)⟩
            have := (List.getElem?_eq_some_iff.1 hj).1
            rw [hb, List.getElem?_append_left this]
            exact hj
        have HP1 := Lib.hid hP.1
        have HB1 := Lib.hid hP.2
        have HT1 := Lib.hid hT1
        have HF1 : Hid (0 + 160 ≤ (dnew (failK d.su d.wa kb (min d.wa.length kb.length))).su.length) := Lib.hid (by
          have := hkp.len
          simp only [dnew]
          rw [failK_len]
          omega)
        have HL1 : Hid ((dnew (failK d.su d.wa kb (min d.wa.length kb.length))).no.length = 160) := Lib.hid (by
          have := hkp.len
          simp only [dnew]
          rw [failK_len]
          omega)
        have Hwa2 : Hid (d.wa.length ≤ 1000000) := Lib.hid (by have := Hwa.out; omega)
        clear hP hl1 hT1 hkp h160
        obtain ⟨lf, hlf⟩ : ∃ lf, ((sdOf 0 160 l1).mn : Int) - ((sdOf 0 160 l1).en : Int) = lf := ⟨_, rfl⟩
        have HLf := Lib.hid hlf
        clear hlf
        go_wp2_with (first | go_big_skip | ((with_reducible refine wpl_absorb H ?_); clear H; (first | ((fail_if_success (have _t := q1)); generalize W.heap.size = q1) | ((fail_if_success (have _t := q2)); generalize W.heap.size = q2) | ((fail_if_success (have _t := q3)); generalize W.heap.size = q3) | ((fail_if_success (have _t := q4)); generalize W.heap.size = q4) | ((fail_if_success (have _t := q5)); generalize W.heap.size = q5) | ((fail_if_success (have _t := q6)); generalize W.heap.size = q6) | ((fail_if_success (have _t := q7)); generalize W.heap.size = q7) | ((fail_if_success (have _t := q8)); generalize W.heap.size = q8) | ((fail_if_success (have _t := q9)); generalize W.heap.size = q9) | generalize W.heap.size = q0); (try clear W); intro W H) | ((with_reducible refine wpl_drew H ?_); clear H; (try clear W); intro W H) | ((with_reducible refine wpl_drewN H ?_); clear H; (try clear W); intro W H) | ((with_reducible apply wpl_load H); (case hs => exact sc _ rfl); (case hw => rfl); (case hx => rfl); (case hm => (repeat (first | with_reducible exact mH | with_reducible assumption | with_reducible apply mT))); (case hv => rfl)) | ((with_reducible apply fail_k (kept := kb)); (case H => exact H); (case hm => (repeat (first | with_reducible exact Pull.here | with_reducible apply Pull.there))); (case hr => exact HK1.out _ (by (repeat (first | with_reducible exact mH | with_reducible assumption | with_reducible apply mT)))); (case hlen => exact Hwa2.out); clear H; (try clear W); intro g2 dv6 W H) | ((with_reducible apply sopen_f 0 160 l1); (case hN => rfl); (case hM => rfl); (case H => exact H); (case hm => (repeat (first | with_reducible exact Pull.here | with_reducible apply Pull.there))); (case h1 => exact HF1.out); (case h2 => decide); (case hf => exact free_new _); (case hwa => exact Nat.zero_le _); (case hT => exact HT1.out); (case hb => exact HB1.out); clear H; (try clear W); intro l1' p1 v1 dv7 W hC1 hO1 H; have HC1 := Lib.hid hC1; have HO1 := Lib.hid hO1; clear hC1 hO1) | ((with_reducible apply has_k (ls := ls)); (case H => exact H); (case hm => (repeat (first | with_reducible exact Pull.here | with_reducible apply Pull.there))); (case hpre => exact HP1.out); (case h1 => exact h1.rdl (by (repeat (first | with_reducible exact mH | with_reducible assumption | with_reducible apply mT)))); clear H; (try clear W); intro W H) | ((with_reducible apply all_k); (case H => exact H); (case hm => (repeat (first | with_reducible exact Pull.here | with_reducible apply Pull.there))); clear H; (try clear W); intro A9 c9 q9 W H))
        have HL2 : Hid (0 + 160 ≤ l1'.length) := Lib.hid (by
          have := HO1.out.su HL1.out
          omega)
        go_loopw [14] (fun iv wr => ∃ (j : Nat) (dv : Dv), j ≤ T ∧ iv = .int .i64 j ∧ Holds wr (dkE g2 dv (dnew l1') :: stE p1 g2 v1 (sdOf 0 160 l1) :: ownE 22 1 (.slice A9 (dnew l1').su.length c9) (dnew l1').su.length (List.zipWith rh q9 (dnew l1').no) :: rwsE q9 (dnew l1').no :: [B0])) (fun iv _ => T - (intOf iv).toNat)
        case atStart => exact ⟨0, dv7, by omega, rfl, Reord.use H (by ((repeat (with_reducible apply Reord.cons; (case p => (repeat (first | with_reducible exact Pull.here | with_reducible apply Pull.there))))); repeat (first | with_reducible exact Reord.rest | with_reducible apply Reord.drop)))⟩
        case round =>
          clear H W
          obtain ⟨j, dv, hj, rfl, H⟩ := hrel
          rename World => W
          by_cases hjt : j < T
          · have hji : (j : Int) < T := by omega
            go_wp2_with (first | go_big_skip | ((with_reducible refine wpl_absorb H ?_); clear H; (first | ((fail_if_success (have _t := q1)); generalize W.heap.size = q1) | ((fail_if_success (have _t := q2)); generalize W.heap.size = q2) | ((fail_if_success (have _t := q3)); generalize W.heap.size = q3) | ((fail_if_success (have _t := q4)); generalize W.heap.size = q4) | ((fail_if_success (have _t := q5)); generalize W.heap.size = q5) | ((fail_if_success (have _t := q6)); generalize W.heap.size = q6) | ((fail_if_success (have _t := q7)); generalize W.heap.size = q7) | ((fail_if_success (have _t := q8)); generalize W.heap.size = q8) | ((fail_if_success (have _t := q9)); generalize W.heap.size = q9) | generalize W.heap.size = q0); (try clear W); intro W H) | ((with_reducible refine wpl_drew H ?_); clear H; (try clear W); intro W H) | ((with_reducible refine wpl_drewN H ?_); clear H; (try clear W); intro W H) | ((with_reducible apply wpl_load H); (case hs => exact sc _ rfl); (case hw => rfl); (case hx => rfl); (case hm => (repeat (first | with_reducible exact mH | with_reducible assumption | with_reducible apply mT))); (case hv => rfl)) | ((with_reducible apply sopen_nw 0 160 l1); (case hN => rfl); (case hM => rfl); (case H => exact H); (case hm => (repeat (first | with_reducible exact Pull.here | with_reducible apply Pull.there))); (case h1 => exact HL2.out); (case h2 => decide); (case hC => exact HC1.out); (case hb => exact HB1.out); clear H; (try clear W); intro p2 v3 dv9 W H) | ((with_reducible apply has_k (ls := ls)); (case H => exact H); (case hm => (repeat (first | with_reducible exact Pull.here | with_reducible apply Pull.there))); (case hpre => exact HP1.out); (case h1 => exact h1.rdl (by (repeat (first | with_reducible exact mH | with_reducible assumption | with_reducible apply mT)))); clear H; (try clear W); intro W H) | ((with_reducible apply slen_v (l1.length : Int)); (case H => exact H); (case hm => (repeat (first | with_reducible exact Pull.here | with_reducible apply Pull.there))); (case hn => rfl); clear H; (try clear W); intro W H) | ((with_reducible apply sleft_v lf); (case H => exact H); (case hm => (repeat (first | with_reducible exact Pull.here | with_reducible apply Pull.there))); (case hn => exact HLf.out); clear H; (try clear W); intro W H) | ((with_reducible apply waits_n 0); (case H => exact H); (case hm => (repeat (first | with_reducible exact Pull.here | with_reducible apply Pull.there))); (case hz => rfl); (case hN => rfl); clear H; (try clear W); intro W H) | (rw [HT.out]))
            exact ⟨⟨j + 1, dv9, by omega, congrArg (Value.int .i64) (by omega), Reord.use H (by ((repeat (with_reducible apply Reord.cons; (case p => (repeat (first | with_reducible exact Pull.here | with_reducible apply Pull.there))))); repeat (first | with_reducible exact Reord.rest | with_reducible apply Reord.drop)))⟩, by simp only [intOf]; omega⟩
          · obtain rfl : j = T := by omega
            go_wp2_with (first | go_big_skip | ((with_reducible refine wpl_absorb H ?_); clear H; (first | ((fail_if_success (have _t := q1)); generalize W.heap.size = q1) | ((fail_if_success (have _t := q2)); generalize W.heap.size = q2) | ((fail_if_success (have _t := q3)); generalize W.heap.size = q3) | ((fail_if_success (have _t := q4)); generalize W.heap.size = q4) | ((fail_if_success (have _t := q5)); generalize W.heap.size = q5) | ((fail_if_success (have _t := q6)); generalize W.heap.size = q6) | ((fail_if_success (have _t := q7)); generalize W.heap.size = q7) | ((fail_if_success (have _t := q8)); generalize W.heap.size = q8) | ((fail_if_success (have _t := q9)); generalize W.heap.size = q9) | generalize W.heap.size = q0); (try clear W); intro W H) | ((with_reducible refine wpl_drew H ?_); clear H; (try clear W); intro W H) | ((with_reducible refine wpl_drewN H ?_); clear H; (try clear W); intro W H) | ((with_reducible apply wpl_load H); (case hs => exact sc _ rfl); (case hw => rfl); (case hx => rfl); (case hm => (repeat (first | with_reducible exact mH | with_reducible assumption | with_reducible apply mT))); (case hv => rfl)) | ((with_reducible apply all_k); (case H => exact H); (case hm => (repeat (first | with_reducible exact Pull.here | with_reducible apply Pull.there))); clear H; (try clear W); intro A8 c8 q8 W H) | ((with_reducible apply sameL_t); (case H => exact H); (case h1 => (apply rdL_rws H; (case ho => (repeat (first | with_reducible exact mH | with_reducible assumption | with_reducible apply mT))); (case hr => (repeat (first | with_reducible exact mH | with_reducible assumption | with_reducible apply mT))); (case hn => rfl))); (case h2 => (apply rdL_rws H; (case ho => (repeat (first | with_reducible exact mH | with_reducible assumption | with_reducible apply mT))); (case hr => (repeat (first | with_reducible exact mH | with_reducible assumption | with_reducible apply mT))); (case hn => rfl))); clear H; (try clear W); intro W H) | (rw [HT.out]))
            exact HR.out _ (Reord.use H (by ((repeat (with_reducible apply Reord.cons; (case p => (repeat (first | with_reducible exact Pull.here | with_reducible apply Pull.there))))); repeat (first | with_reducible exact Reord.rest | with_reducible apply Reord.drop))))
end
end Go.Proofs.Ytdnioigcgggdbaa
