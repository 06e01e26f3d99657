/-
  stores: the walk of StoresKept.
-/
import Derived.Test.YtdnioigcgggdbaaStM
import Derived.Test.YtdnioigcgggdbaaOpN
set_option linter.unusedVariables false
set_option linter.unusedSimpArgs false
namespace Go.Proofs.Ytdnioigcgggdbaa
open Go.RowKit
theorem Kp.fail0 {d : Dd} {fr mn : Nat} {ls : List (List UInt8)} (h : Kp d fr mn ls) (hw : d.wa = []) (kept : List Bool) : Torn (failK d.su d.wa kept (min d.wa.length kept.length)) fr mn (sects 0 ls) := by
  obtain ⟨l0, h1 | h1, h2⟩ := h.fail kept
  · rw [← h1]; exact h2
  · exact absurd hw h1.1
section
set_option maxRecDepth 100000 in
set_option maxHeartbeats 4000000 in
theorem storesKept_walk (W0 : World) {A : Option Addr} {n c : Nat} {hs : List Value} {ls : List (List UInt8)} (hr : Rd W0 1 A n c hs) (hl : ls.length = n)
    (hat : ∀ (j : Nat) (l : List UInt8), ls[j]? = some l → ∃ (B : Option Addr) (m k : Nat), hs[j]? = some (Value.slice B m k) ∧ Rd W0 1 B m k (bvs l)) (a0 : Int) (w0 : (Lit.int .u8 a0).wf = true)
    {B1 B2 : Option Addr} {m1 m2 k1 k2 : Nat} {kb1 kb2 : List Bool} (hk1 : Rd W0 1 B1 m1 k1 (kb1.map Value.bool)) (hk2 : Rd W0 1 B2 m2 k2 (kb2.map Value.bool)) :
    Calls Try.prog 4 #[.slice A n c, .int .u8 a0, .agg #[.slice B1 m1 k1, .slice B2 m2 k2]] W0 fun e w' => e = .returned (.bool true) ∧ Ext W0 w' := by
  obtain ⟨x0, rfl⟩ : ∃ x : UInt8, a0 = ((x.toNat : Nat) : Int) := ⟨_, (u8_of_wf w0).symm⟩
  have h1 := argL_base hr hl hat
  have HK1 : Hid (∀ L, base W0 ∈ L → Gives L fun w => Rd w 1 B1 m1 k1 (kb1.map Value.bool)) := Lib.hid fun L hm w H => hk1.ext (H.all _ hm)
  have HK2 : Hid (∀ L, base W0 ∈ L → Gives L fun w => Rd w 1 B2 m2 k2 (kb2.map Value.bool)) := Lib.hid fun L hm w H => hk2.ext (H.all _ hm)
  have H := holds_base W0
  have HR : Hid (∀ w', Holds w' [base W0] → (Ending.returned (.bool true) = .returned (.bool true) ∧ Ext W0 w')) := Lib.hid fun w' h => ⟨rfl, h.head⟩
  generalize hB : base W0 = B0 at H HR h1 HK1 HK2
  generalize hRR : (fun (e : Ending) (w' : World) => e = .returned (.bool true) ∧ Ext W0 w') = R
  replace HR : Hid (∀ w', Holds w' [B0] → R (.returned (.bool true)) w') := Lib.hid fun w' h => by subst hRR; exact HR.out w' h
  have hle := hr.le
  have htop := hr.top
  unfold maxLen at htop
  clear hRR hB hr hat w0 hk1 hk2
  generalize W0 = W at H ⊢
  by_cases hgo : ¬ (smallB ls = true ∧ m1 ≤ 100 ∧ m2 ≤ 100)
  · cases hsm : smallB ls with
    | false =>
      have Hsm := Lib.hid hsm
      clear hsm hgo
      go_enter Try.func4, Try.ntmps4
      go_wp2_with (first | go_big_skip | ((with_reducible refine wpl_absorb H ?_); clear H; (first  | generalize W.heap.size = q0); (try clear W); intro W H) | ((with_reducible refine wpl_drew H ?_); clear H; (try clear W); intro W H) | ((with_reducible refine wpl_drewN H ?_); clear H; (try clear W); intro W H) | ((with_reducible apply wpl_load H); (case hs => exact sc _ rfl); (case hw => rfl); (case hx => rfl); (case hm => (repeat (first | with_reducible exact mH | with_reducible assumption | with_reducible apply mT))); (case hv => rfl)) | ((with_reducible apply alive_k H); clear H; (try clear W); intro W H) | ((with_reducible apply small_k (ls := ls)); (case H => exact H); (case h1 => exact h1.rdl (by (repeat (first | with_reducible exact mH | with_reducible assumption | with_reducible apply mT)))); clear H; (try clear W); intro W H; rw [Hsm.out]))
      exact HR.out _ (Reord.use H (by ((repeat (with_reducible apply Reord.cons; (case p => (repeat (first | with_reducible exact Pull.here | with_reducible apply Pull.there))))); repeat (first | with_reducible exact Reord.rest | with_reducible apply Reord.drop))))
    | true =>
      have Hsm := Lib.hid hsm
      by_cases hm1 : m1 ≤ 100
      · have hm1i : decide ((100 : Int) < (m1 : Int)) = false := decide_eq_false (by omega)
        have hm2i : (100 : Int) < m2 := by
          have : ¬ m2 ≤ 100 := fun h => hgo ⟨hsm, hm1, h⟩
          omega
        clear hsm hgo
        go_enter Try.func4, Try.ntmps4
        go_wp2_with (first | go_big_skip | ((with_reducible refine wpl_absorb H ?_); clear H; (first  | generalize W.heap.size = q0); (try clear W); intro W H) | ((with_reducible refine wpl_drew H ?_); clear H; (try clear W); intro W H) | ((with_reducible refine wpl_drewN H ?_); clear H; (try clear W); intro W H) | ((with_reducible apply wpl_load H); (case hs => exact sc _ rfl); (case hw => rfl); (case hx => rfl); (case hm => (repeat (first | with_reducible exact mH | with_reducible assumption | with_reducible apply mT))); (case hv => rfl)) | ((with_reducible apply alive_k H); clear H; (try clear W); intro W H) | ((with_reducible apply small_k (ls := ls)); (case H => exact H); (case h1 => exact h1.rdl (by (repeat (first | with_reducible exact mH | with_reducible assumption | with_reducible apply mT)))); clear H; (try clear W); intro W H; rw [Hsm.out]))
        exact HR.out _ (Reord.use H (by ((repeat (with_reducible apply Reord.cons; (case p => (repeat (first | with_reducible exact Pull.here | with_reducible apply Pull.there))))); repeat (first | with_reducible exact Reord.rest | with_reducible apply Reord.drop))))
      · have hm1i : decide ((100 : Int) < (m1 : Int)) = true := decide_eq_true (by omega)
        clear hsm hgo
        go_enter Try.func4, Try.ntmps4
        go_wp2_with (first | go_big_skip | ((with_reducible refine wpl_absorb H ?_); clear H; (first  | generalize W.heap.size = q0); (try clear W); intro W H) | ((with_reducible refine wpl_drew H ?_); clear H; (try clear W); intro W H) | ((with_reducible refine wpl_drewN H ?_); clear H; (try clear W); intro W H) | ((with_reducible apply wpl_load H); (case hs => exact sc _ rfl); (case hw => rfl); (case hx => rfl); (case hm => (repeat (first | with_reducible exact mH | with_reducible assumption | with_reducible apply mT))); (case hv => rfl)) | ((with_reducible apply alive_k H); clear H; (try clear W); intro W H) | ((with_reducible apply small_k (ls := ls)); (case H => exact H); (case h1 => exact h1.rdl (by (repeat (first | with_reducible exact mH | with_reducible assumption | with_reducible apply mT)))); clear H; (try clear W); intro W H; rw [Hsm.out]))
        exact HR.out _ (Reord.use H (by ((repeat (with_reducible apply Reord.cons; (case p => (repeat (first | with_reducible exact Pull.here | with_reducible apply Pull.there))))); repeat (first | with_reducible exact Reord.rest | with_reducible apply Reord.drop))))
  · obtain ⟨hsm, hm1, hm2⟩ := Classical.not_not.1 hgo
    clear hgo
    obtain ⟨hs30, hs6⟩ := smallB_256 hsm
    have Hsm := Lib.hid hsm
    have Hs6 := Lib.hid hs6
    have hm1i : decide ((100 : Int) < (m1 : Int)) = false := decide_eq_false (by omega)
    have hm2i : decide ((100 : Int) < (m2 : Int)) = false := decide_eq_false (by omega)
    have HK : Hid ((wrap64 ((x0.toNat : Nat) : Int)).tmod ((n : Int) + 1) = ((x0.toNat % (n + 1) : Nat) : Int)) := Lib.hid (wrap64_u8 x0 _ (by omega) (n + 1) (by omega))
    have hKn : x0.toNat % (n + 1) ≤ n := by have := Nat.mod_lt x0.toNat (show 0 < n + 1 by omega); omega
    generalize hKK : x0.toNat % (n + 1) = K at *
    have hn1 : ((n : Int) + 1 == 0) = false := by rw [beq_eq_false_iff_ne]; omega
    clear hsm hs6 hKK
    go_enter Try.func4, Try.ntmps4
    go_wp2_with (first | go_big_skip | ((with_reducible refine wpl_absorb H ?_); clear H; (first  | generalize W.heap.size = q0); (try clear W); intro W H) | ((with_reducible refine wpl_drew H ?_); clear H; (try clear W); intro W H) | ((with_reducible refine wpl_drewN H ?_); clear H; (try clear W); intro W H) | ((with_reducible apply wpl_load H); (case hs => exact sc _ rfl); (case hw => rfl); (case hx => rfl); (case hm => (repeat (first | with_reducible exact mH | with_reducible assumption | with_reducible apply mT))); (case hv => rfl)) | ((with_reducible apply alive_k H); clear H; (try clear W); intro W H) | ((with_reducible apply small_k (ls := ls)); (case H => exact H); (case h1 => exact h1.rdl (by (repeat (first | with_reducible exact mH | with_reducible assumption | with_reducible apply mT)))); clear H; (try clear W); intro W H; rw [Hsm.out]) | ((with_reducible apply new_n 160); (case hN => rfl); (case h0 => decide); (case h1 => decide); (case H => exact H); clear H; (try clear W); intro g dv0 W H) | ((with_reducible apply sopen_cl 3 155 []); (case hN => rfl); (case hM => rfl); (case H => exact H); (case hm => (repeat (first | with_reducible exact Pull.here | with_reducible apply Pull.there))); (case h1 => decide); (case h2 => decide); (case hf => exact free_new _); (case hwa => exact Nat.zero_le _); (case hC => exact clean_new 160 3 155 (by decide)); (case hb => exact nil_256); clear H; (try clear W); intro p v0 dv1 W H) | (rw [HK.out]))
    have hk0 : Kp (dnew (List.replicate 160 zsec)) 3 155 [] := Kp.new _ (clean_new 160 3 155 (by decide)) nil_256
    go_loopw [12] (fun iv wr => ∃ (i : Nat) (d : Dd) (v : Sv) (dv : Dv), i ≤ n ∧ iv = .int .i64 i ∧ Kp d 3 155 (ls.take i) ∧ d.no.length = 160 ∧ (i = K → d.wa = []) ∧ Holds wr (stE p g v (sdOf 3 155 (ls.take i)) :: dkE g dv d :: blk q0 [.slice B1 m1 k1, .slice B2 m2 k2] 43 :: [B0])) (fun iv _ => n - (intOf iv).toNat)
    case atStart => exact ⟨0, dnew (List.replicate 160 zsec), v0, dv1, by omega, rfl, hk0, by simp only [dnew, List.length_replicate], fun _ => rfl, H⟩
    case round =>
      clear H W hk0
      obtain ⟨i, d, v, dv, hi, rfl, hkp, h160, hsure, H⟩ := hrel
      rename World => W
      have Hkp := Lib.hid hkp
      have H160 := Lib.hid h160
      have Hwa : Hid (d.wa.length ≤ 500000) := Lib.hid (by have := hkp.wa1; omega)
      by_cases hlt : i < n
      · clear hkp h160 hsure
        have hii : (i : Int) < n := by omega
        obtain ⟨x, hx⟩ : ∃ x, ls[i]? = some x := ⟨_, List.getElem?_eq_getElem (by omega)⟩
        obtain ⟨B, m, cb, hh, gb⟩ := h1.at_ i x hx
        have hxm := (gb _ (by (repeat (first | with_reducible exact mH | with_reducible assumption | with_reducible apply mT))) W H).blen
        have hm6 : m ≤ 256 := by rw [← hxm]; exact Hs6.out x (List.mem_of_getElem? hx)
        obtain ⟨a1, o1, rfl, -⟩ := (h1.head _ (by (repeat (first | with_reducible exact mH | with_reducible assumption | with_reducible apply mT))) W H).at_ (by omega)
        have HGB := Lib.hid gb
        have Hh := Lib.hid hh
        have Htk := Lib.hid (take_snoc hx)
        clear hh hx gb
        by_cases hK1 : i + 1 = K
        · have hKi : (((i : Nat) : Int) == (K : Int) - 1) = true := by rw [beq_iff_eq]; omega
          go_wp2_with (first | go_big_skip | ((with_reducible refine wpl_absorb H ?_); clear H; (first  | generalize W.heap.size = q0); (try clear W); intro W H) | ((with_reducible refine wpl_drew H ?_); clear H; (try clear W); intro W H) | ((with_reducible refine wpl_drewN H ?_); clear H; (try clear W); intro W H) | ((with_reducible apply wpl_load H); (case hs => exact sc _ rfl); (case hw => rfl); (case hx => rfl); (case hm => (repeat (first | with_reducible exact mH | with_reducible assumption | with_reducible apply mT))); (case hv => rfl)) | ((with_reducible apply wpl_loadVs (o := o1) (j := i) (v := .slice B m cb) H); (case hs => exact sc _ rfl); (case hw => rfl); (case hx => rfl); (case hm => exact h1.head _ (by (repeat (first | with_reducible exact mH | with_reducible assumption | with_reducible apply mT)))); (case hj => omega); (case hv => exact Hh.out)) | ((with_reducible apply sadd_f (b := x) 3 155 (ls.take i)); (case H => exact H); (case hm => (repeat (first | with_reducible exact Pull.here | with_reducible apply Pull.there))); (case hm2 => (repeat (first | with_reducible exact Pull.here | with_reducible apply Pull.there))); (case hf => exact Hkp.out.free); (case hC => exact Hkp.out.cl); (case hb6 => exact take_256 Hs6.out i); (case hm6 => exact hm6); (case hroom => exact room_take (x := x) Hs6.out hm6 (by omega) (by decide)); (case hwa => exact Hwa.out); (case G => exact HGB.out _ (by (repeat (first | with_reducible exact mH | with_reducible assumption | with_reducible apply mT)))); clear H; (try clear W); intro d2 v2 dv2 W hkp2 hw2 hO2 H; rw [← Htk.out] at hkp2 H; have Hkp2 := Lib.hid hkp2; have HO2 := Lib.hid hO2; clear hkp2 hw2 hO2) | ((with_reducible apply ssync_c); (case hz => exact Hkp2.out.sync.1); (case H => exact H); (case hm => (repeat (first | with_reducible exact Pull.here | with_reducible apply Pull.there))); (case hm2 => (repeat (first | with_reducible exact Pull.here | with_reducible apply Pull.there))); clear H; (try clear W); intro dv5 W H))
          exact ⟨⟨i + 1, dnew d2.no, v2, dv5, by omega, congrArg (Value.int .i64) (by omega), Hkp2.out.sync.2, HO2.out.su H160.out, fun _ => rfl, Reord.use H (by ((repeat (with_reducible apply Reord.cons; (case p => (repeat (first | with_reducible exact Pull.here | with_reducible apply Pull.there))))); repeat (first | with_reducible exact Reord.rest | with_reducible apply Reord.drop)))⟩, by simp only [intOf]; omega⟩
        · have hKi : (((i : Nat) : Int) == (K : Int) - 1) = false := by rw [beq_eq_false_iff_ne]; omega
          go_wp2_with (first | go_big_skip | ((with_reducible refine wpl_absorb H ?_); clear H; (first  | generalize W.heap.size = q0); (try clear W); intro W H) | ((with_reducible refine wpl_drew H ?_); clear H; (try clear W); intro W H) | ((with_reducible refine wpl_drewN H ?_); clear H; (try clear W); intro W H) | ((with_reducible apply wpl_load H); (case hs => exact sc _ rfl); (case hw => rfl); (case hx => rfl); (case hm => (repeat (first | with_reducible exact mH | with_reducible assumption | with_reducible apply mT))); (case hv => rfl)) | ((with_reducible apply wpl_loadVs (o := o1) (j := i) (v := .slice B m cb) H); (case hs => exact sc _ rfl); (case hw => rfl); (case hx => rfl); (case hm => exact h1.head _ (by (repeat (first | with_reducible exact mH | with_reducible assumption | with_reducible apply mT)))); (case hj => omega); (case hv => exact Hh.out)) | ((with_reducible apply sadd_f (b := x) 3 155 (ls.take i)); (case H => exact H); (case hm => (repeat (first | with_reducible exact Pull.here | with_reducible apply Pull.there))); (case hm2 => (repeat (first | with_reducible exact Pull.here | with_reducible apply Pull.there))); (case hf => exact Hkp.out.free); (case hC => exact Hkp.out.cl); (case hb6 => exact take_256 Hs6.out i); (case hm6 => exact hm6); (case hroom => exact room_take (x := x) Hs6.out hm6 (by omega) (by decide)); (case hwa => exact Hwa.out); (case G => exact HGB.out _ (by (repeat (first | with_reducible exact mH | with_reducible assumption | with_reducible apply mT)))); clear H; (try clear W); intro d2 v2 dv2 W hkp2 hw2 hO2 H; rw [← Htk.out] at hkp2 H; have Hkp2 := Lib.hid hkp2; have HO2 := Lib.hid hO2; clear hkp2 hw2 hO2))
          exact ⟨⟨i + 1, d2, v2, dv2, by omega, congrArg (Value.int .i64) (by omega), Hkp2.out, HO2.out.su H160.out, fun h => absurd h hK1, Reord.use H (by ((repeat (with_reducible apply Reord.cons; (case p => (repeat (first | with_reducible exact Pull.here | with_reducible apply Pull.there))))); repeat (first | with_reducible exact Reord.rest | with_reducible apply Reord.drop)))⟩, by simp only [intOf]; omega⟩
      · obtain rfl : i = n := by omega
        rw [List.take_of_length_le (by omega)] at hkp
        obtain ⟨l1, hl1, hT1⟩ := hkp.fail kb1
        obtain ⟨q, hq⟩ : ∃ q, l1.length = q := ⟨_, rfl⟩
        have hP : (∀ (j : Nat) (y : List UInt8), l1[j]? = some y → ls[j]? = some y) ∧ K ≤ q ∧ i - 1 ≤ q ∧ ∀ b ∈ l1, b.length ≤ 256 := by
          rcases hl1 with rfl | ⟨hw, b, hb⟩
          · exact ⟨fun _ _ h => h, by omega, by omega, hkp.b6⟩
          · have hlen : ls.length = l1.length + 1 := by rw [hb, List.length_append]; rfl
            have hKq : K ≠ i := fun h => hw (hsure h.symm)
            refine ⟨fun j y hj => ?_, by omega, by omega, fun y hy => hkp.b6 y (by rw [hb]; exact List.mem_append_left _ hy)⟩
            have := (List.getElem?_eq_some_iff.1 hj).1
            rw [hb, List.getElem?_append_left this]
            exact hj
        have hqK := hP.2.1
        have hqi := hP.2.2.1
        have HP1 := Lib.hid hP.1
        have HB1 := Lib.hid hP.2.2.2
        have HT1 := Lib.hid hT1
        have HQ : Hid (((sdOf 3 155 l1).ls.length : Int) = (q : Int)) := Lib.hid (by rw [← hq]; rfl)
        have HF1 : Hid (3 + 155 ≤ (dnew (failK d.su d.wa kb1 (min d.wa.length kb1.length))).su.length) := Lib.hid (by
          have := hkp.len
          simp only [dnew]
          rw [failK_len]
          omega)
        have HL1 : Hid ((dnew (failK d.su d.wa kb1 (min d.wa.length kb1.length))).no.length = 160) := Lib.hid (by
          have := hkp.len
          simp only [dnew]
          rw [failK_len]
          omega)
        have Hwa2 : Hid (d.wa.length ≤ 1000000) := Lib.hid (by have := Hwa.out; omega)
        clear hP hl1 hT1 hkp h160 hsure hq
        have hc1 : decide ((q : Int) < (K : Int)) = false := decide_eq_false (by omega)
        have hc2 : decide ((q : Int) < (i : Int) - 1) = false := decide_eq_false (by omega)
        go_wp2_with (first | go_big_skip | ((with_reducible refine wpl_absorb H ?_); clear H; (first  | generalize W.heap.size = q0); (try clear W); intro W H) | ((with_reducible refine wpl_drew H ?_); clear H; (try clear W); intro W H) | ((with_reducible refine wpl_drewN H ?_); clear H; (try clear W); intro W H) | ((with_reducible apply wpl_load H); (case hs => exact sc _ rfl); (case hw => rfl); (case hx => rfl); (case hm => (repeat (first | with_reducible exact mH | with_reducible assumption | with_reducible apply mT))); (case hv => rfl)))
        refine wp_loop_rounds 3 ?_
        rw [rounds_succ]
        go_wp2_with (first | go_big_skip | ((with_reducible refine wpl_absorb H ?_); clear H; (first  | generalize W.heap.size = q0); (try clear W); intro W H) | ((with_reducible refine wpl_drew H ?_); clear H; (try clear W); intro W H) | ((with_reducible refine wpl_drewN H ?_); clear H; (try clear W); intro W H) | ((with_reducible apply wpl_load H); (case hs => exact sc _ rfl); (case hw => rfl); (case hx => rfl); (case hm => (repeat (first | with_reducible exact mH | with_reducible assumption | with_reducible apply mT))); (case hv => rfl)) | ((with_reducible apply fail_k (kept := kb1)); (case H => exact H); (case hm => (repeat (first | with_reducible exact Pull.here | with_reducible apply Pull.there))); (case hr => exact HK1.out _ (by (repeat (first | with_reducible exact mH | with_reducible assumption | with_reducible apply mT)))); (case hlen => exact Hwa2.out); clear H; (try clear W); intro g2 dv6 W H) | ((with_reducible apply sopen_f 3 155 l1); (case hN => rfl); (case hM => rfl); (case H => exact H); (case hm => (repeat (first | with_reducible exact Pull.here | with_reducible apply Pull.there))); (case h1 => exact HF1.out); (case h2 => decide); (case hf => exact free_new _); (case hwa => exact Nat.zero_le _); (case hT => exact HT1.out); (case hb => exact HB1.out); clear H; (try clear W); intro l1' p1 v1 dv7 W hC1 hO1 H; have HC1 := Lib.hid hC1; have HO1 := Lib.hid hO1; clear hC1 hO1) | ((with_reducible apply has_k (ls := ls)); (case H => exact H); (case hm => (repeat (first | with_reducible exact Pull.here | with_reducible apply Pull.there))); (case hpre => exact HP1.out); (case h1 => exact h1.rdl (by (repeat (first | with_reducible exact mH | with_reducible assumption | with_reducible apply mT)))); clear H; (try clear W); intro W H) | ((with_reducible apply slen_v (q : Int)); (case H => exact H); (case hm => (repeat (first | with_reducible exact Pull.here | with_reducible apply Pull.there))); (case hn => exact HQ.out); clear H; (try clear W); intro W H))
        have hk2 := Kp.new l1' HC1.out HB1.out
        have HT2 := Lib.hid (hk2.fail0 rfl kb2)
        have HF2 : Hid (3 + 155 ≤ (dnew (failK (dnew l1').su (dnew l1').wa kb2 (min (dnew l1').wa.length kb2.length))).su.length) := Lib.hid (by
          have := HO1.out.su HL1.out
          simp only [dnew]
          rw [failK_len]
          omega)
        clear hk2
        rw [rounds_succ]
        go_wp2_with (first | go_big_skip | ((with_reducible refine wpl_absorb H ?_); clear H; (first  | generalize W.heap.size = q0); (try clear W); intro W H) | ((with_reducible refine wpl_drew H ?_); clear H; (try clear W); intro W H) | ((with_reducible refine wpl_drewN H ?_); clear H; (try clear W); intro W H) | ((with_reducible apply wpl_load H); (case hs => exact sc _ rfl); (case hw => rfl); (case hx => rfl); (case hm => (repeat (first | with_reducible exact mH | with_reducible assumption | with_reducible apply mT))); (case hv => rfl)) | ((with_reducible apply fail_k (kept := kb2)); (case H => exact H); (case hm => (repeat (first | with_reducible exact Pull.here | with_reducible apply Pull.there))); (case hr => exact HK2.out _ (by (repeat (first | with_reducible exact mH | with_reducible assumption | with_reducible apply mT)))); (case hlen => exact Nat.zero_le _); clear H; (try clear W); intro g3 dv8 W H) | ((with_reducible apply sopen_f 3 155 l1); (case hN => rfl); (case hM => rfl); (case H => exact H); (case hm => (repeat (first | with_reducible exact Pull.here | with_reducible apply Pull.there))); (case h1 => exact HF2.out); (case h2 => decide); (case hf => exact free_new _); (case hwa => exact Nat.zero_le _); (case hT => exact HT2.out); (case hb => exact HB1.out); clear H; (try clear W); intro l2' p2 v3 dv9 W hC2 hO2 H; clear hC2 hO2) | ((with_reducible apply has_k (ls := ls)); (case H => exact H); (case hm => (repeat (first | with_reducible exact Pull.here | with_reducible apply Pull.there))); (case hpre => exact HP1.out); (case h1 => exact h1.rdl (by (repeat (first | with_reducible exact mH | with_reducible assumption | with_reducible apply mT)))); clear H; (try clear W); intro W H) | ((with_reducible apply slen_v (q : Int)); (case H => exact H); (case hm => (repeat (first | with_reducible exact Pull.here | with_reducible apply Pull.there))); (case hn => exact HQ.out); clear H; (try clear W); intro W H))
        rw [rounds_succ]
        go_wp2_with (first | go_big_skip | ((with_reducible refine wpl_absorb H ?_); clear H; (first  | generalize W.heap.size = q0); (try clear W); intro W H) | ((with_reducible refine wpl_drew H ?_); clear H; (try clear W); intro W H) | ((with_reducible refine wpl_drewN H ?_); clear H; (try clear W); intro W H) | ((with_reducible apply wpl_load H); (case hs => exact sc _ rfl); (case hw => rfl); (case hx => rfl); (case hm => (repeat (first | with_reducible exact mH | with_reducible assumption | with_reducible apply mT))); (case hv => rfl)))
        exact HR.out _ (Reord.use H (by ((repeat (with_reducible apply Reord.cons; (case p => (repeat (first | with_reducible exact Pull.here | with_reducible apply Pull.there))))); repeat (first | with_reducible exact Reord.rest | with_reducible apply Reord.drop))))
end
end Go.Proofs.Ytdnioigcgggdbaa
