/-
  stores: the walk of StoresPlay.
-/
import Derived.Test.YtdnioigcgggdbaaGreatDoorMap
import Derived.Test.YtdnioigcgggdbaaGreatDoorMat
set_option linter.unusedVariables false
set_option linter.unusedSimpArgs false
namespace Go.Proofs.YtdnioigcgggdbaaGreatDoor
open Go.RowKit

theorem kinds (K : UInt8) : ((K.toNat : Nat) : Int) % 9 = 4 ∨ ((K.toNat : Nat) : Int) % 9 = 5 ∨ ((K.toNat : Nat) : Int) % 9 = 6 ∨ ((K.toNat : Nat) : Int) % 9 = 7 ∨ ((K.toNat : Nat) : Int) % 9 = 8 ∨ ∃ q : Nat, ((K.toNat : Nat) : Int) % 9 = (q : Int) ∧ q < 4 := by
  by_cases h : K.toNat % 9 < 4
  · exact .inr (.inr (.inr (.inr (.inr ⟨K.toNat % 9, by omega, h⟩))))
  · omega
theorem kinds8 (K : UInt8) (P Q : Prop) : (((K.toNat : Nat) : Int) % 9 = 5 ∨ (((K.toNat : Nat) : Int) % 9 = 4 ∧ ¬ P) ∨ ∃ q : Nat, ((K.toNat : Nat) : Int) % 9 = (q : Int) ∧ q < 4 ∧ ¬ Q) ∨
    ((((K.toNat : Nat) : Int) % 9 = 4 ∧ P) ∨ (∃ q : Nat, ((K.toNat : Nat) : Int) % 9 = (q : Int) ∧ q < 4 ∧ Q) ∨ ((K.toNat : Nat) : Int) % 9 = 6 ∨ ((K.toNat : Nat) : Int) % 9 = 7 ∨ ((K.toNat : Nat) : Int) % 9 = 8) := by
  rcases kinds K with h | h | h | h | h | ⟨q, h, hq⟩
  · by_cases hp : P
    · exact .inr (.inl ⟨h, hp⟩)
    · exact .inl (.inr (.inl ⟨h, hp⟩))
  · exact .inl (.inl h)
  · exact .inr (.inr (.inr (.inl h)))
  · exact .inr (.inr (.inr (.inr (.inl h))))
  · exact .inr (.inr (.inr (.inr (.inr h))))
  · by_cases hp : Q
    · exact .inr (.inr (.inl ⟨q, h, hq, hp⟩))
    · exact .inl (.inr (.inr ⟨q, h, hq, hp⟩))
theorem take_six {cs : List Value} {j : Nat} {x0 x1 x2 x3 x4 x5 : Value} (h0 : cs[j]? = some x0) (h1 : cs[j + 1]? = some x1) (h2 : cs[j + 2]? = some x2) (h3 : cs[j + 3]? = some x3) (h4 : cs[j + 4]? = some x4) (h5 : cs[j + 5]? = some x5) : (cs.drop j).take 6 = [x0, x1, x2, x3, x4, x5] := by
  rw [drop_cons' h0, drop_cons' h1, drop_cons' h2, drop_cons' h3, drop_cons' h4, drop_cons' h5]
  rfl
theorem stE_ok {W : World} {L : List Ent} {p g : Nat} {v : Sv} {s : Sd} (H : Holds W L) (h : stE p g v s ∈ L) : SOk s := (H.all _ h).1
theorem turnE_sized {d : Dd} {n : Nat} (N M : Int) (y : UInt8) (h : d.sized n) : (d.turnE N M y).1.sized n := by
  obtain ⟨h1, h2⟩ := h
  unfold Dd.turnE
  split
  · exact ⟨h1, h2⟩
  · split
    · exact ⟨h1, h2⟩
    · unfold Dd.turn Dd.settle
      exact ⟨by simp [h2], by simp [h2]⟩
theorem failD_sized {d : Dd} {n : Nat} (kept : List Bool) (h : d.sized n) : (d.failD kept).sized n := by
  unfold Dd.failD dnew
  exact ⟨by simp only [failK_len]; exact h.1, by simp only [failK_len]; exact h.1⟩
theorem fuse_sized {d : Dd} {n : Nat} (N : Int) (h : d.sized n) : (d.fuse N).sized n := h
section
variable {B0 : Ent} {W : World} {R : Ending → World → Prop} {A : Option Addr} {n c : Nat} {cs : List Value} {acts : List ActV}
set_option maxRecDepth 100000 in
set_option maxHeartbeats 40000000 in
theorem storesPlay (S F M : Int) (h1 : RdA B0 A n c cs acts) (H : Holds W [B0]) (HR : Hid (∀ w', Holds w' [B0] → R (.returned (.bool true)) w')) :
    Calls Tryz.prog 3 #[.agg #[.int .i64 S, .int .i64 F, .int .i64 M], .slice A n c] W R := by
  by_cases hg : 500 < gsumS acts n ∨ 200 < S
  · as_aux_lemma =>
      have Hg := Lib.hid (decide_eq_true hg)
      clear hg
      go_enter Tryz.func3, Tryz.ntmps3
      go_wp2_with (first | ((with_reducible refine wpl_absorb H ?_); clear H; (first | ((fail_if_success (have _t := q1)); generalize W.heap.size = q1) ); (try clear W); intro W H) | ((with_reducible apply wpl_loadA H); (case hs => exact ag _ _ rfl); (case hw | hx => rfl); (case hm => (with_reducible repeat first | exact mH)); (case hv | hl => rfl); (try simp only [List.drop_zero, List.drop_succ_cons, List.take_succ_cons, List.take_zero, List.take_nil])) | ((with_reducible apply greatS_k h1 Hg.out); (case H => exact H); (case hb => (with_reducible repeat first | exact mH | apply mT)); clear H; (try clear W); intro W H))
      exact HR.out _ (Reord.use H (by ((repeat (with_reducible apply Reord.cons; (case p => (with_reducible repeat first | exact Pull.here | apply Pull.there)))); repeat (first | with_reducible exact Reord.rest | with_reducible apply Reord.drop))))
  · have Hg := Lib.hid (decide_eq_false hg)
    have hsm := smallS_of (acts := acts) (by rw [h1.len]; omega)
    rw [h1.len] at hsm
    have hn50 := hsm.1
    have Hb15 := Lib.hid hsm.2
    have hS2 : S ≤ 200 := by omega
    clear hg hsm
    by_cases hS : S < 1 ∨ 4096 < S
    · as_aux_lemma =>
        have HS := Lib.hid hS
        clear hS
        go_enter Tryz.func3, Tryz.ntmps3
        go_wp2_with (first | ((with_reducible refine wpl_absorb H ?_); clear H; (first | ((fail_if_success (have _t := q1)); generalize W.heap.size = q1) ); (try clear W); intro W H) | ((with_reducible apply wpl_load H); (case hs => exact sc _ rfl); (case hw | hx => rfl); (case hm => (with_reducible repeat first | exact mH)); (case hv => rfl)) | ((with_reducible apply wpl_loadA H); (case hs => exact ag _ _ rfl); (case hw | hx => rfl); (case hm => (with_reducible repeat first | exact mH)); (case hv | hl => rfl); (try simp only [List.drop_zero, List.drop_succ_cons, List.take_succ_cons, List.take_zero, List.take_nil])) | ((with_reducible apply greatS_k h1 Hg.out); (case H => exact H); (case hb => (with_reducible repeat first | exact mH | apply mT)); clear H; (try clear W); intro W H) | ((with_reducible apply new_no); (case hn => exact HS.out); (case H => exact H); clear H; (try clear W); intro W H) | ((with_reducible apply rnew_no); (case hn => exact HS.out); (case H => exact H); clear H; (try clear W); intro W H))
        exact HR.out _ (Reord.use H (by ((repeat (with_reducible apply Reord.cons; (case p => (with_reducible repeat first | exact Pull.here | apply Pull.there)))); repeat (first | with_reducible exact Reord.rest | with_reducible apply Reord.drop))))
    · obtain ⟨s, rfl⟩ : ∃ s : Nat, S = s := ⟨S.toNat, by omega⟩
      have hs200 : s ≤ 200 := by omega
      have Hs0 : Hid (0 < s) := Lib.hid (by omega)
      have Hs1 : Hid (s ≤ 4096) := Lib.hid (by omega)
      obtain ⟨d0, hd0⟩ : ∃ d0, dnew (List.replicate s zsec) = d0 := ⟨_, rfl⟩
      have hz0 : d0.sized s := by rw [← hd0]; exact ⟨by simp [dnew], by simp [dnew]⟩
      have hl0 : ∀ x ∈ d0.no, x.length = 64 := by
        rw [← hd0]
        intro x hx
        rw [List.eq_of_mem_replicate hx]
        rfl
      have hw0 : d0.wa.length ≤ 0 := by rw [← hd0]; exact Nat.le_refl _
      clear hS hS2
      by_cases hA : F < 0 ∨ M < 1 ∨ (s : Int) < F ∨ (s : Int) - F < M
      · as_aux_lemma =>
          have HA : Hid (F < 0 ∨ M < 1 ∨ (d0.su.length : Int) < F ∨ (d0.su.length : Int) - F < M) := Lib.hid (by rw [hz0.1]; exact hA)
          have Hd4 : Hid (d0.su.length ≤ 4096) := Lib.hid (by rw [hz0.1]; omega)
          have Hd0 := Lib.hid hd0
          clear hA hz0 hl0 hw0 hd0
          go_enter Tryz.func3, Tryz.ntmps3
          go_wp2_with (first | ((with_reducible refine wpl_absorb H ?_); clear H; (first | ((fail_if_success (have _t := q1)); generalize W.heap.size = q1) ); (try clear W); intro W H) | ((with_reducible apply wpl_load H); (case hs => exact sc _ rfl); (case hw | hx => rfl); (case hm => (with_reducible repeat first | exact mH | apply mT)); (case hv => rfl)) | ((with_reducible apply wpl_loadA H); (case hs => exact ag _ _ rfl); (case hw | hx => rfl); (case hm => (with_reducible repeat first | exact mH)); (case hv | hl => rfl); (try simp only [List.drop_zero, List.drop_succ_cons, List.take_succ_cons, List.take_zero, List.take_nil])) | ((with_reducible apply greatS_k h1 Hg.out); (case H => exact H); (case hb => (with_reducible repeat first | exact mH | apply mT)); clear H; (try clear W); intro W H) | ((with_reducible apply new_k s Hs0.out Hs1.out); (case H => exact H); clear H; (try clear W); rw [Hd0.out]; intro g0 v0 W H) | ((with_reducible apply rnew_k s Hs0.out Hs1.out); (case H => exact H); clear H; (try clear W); rw [Hd0.out]; intro gm0 vm0 W H) | ((with_reducible apply sopen_arg HA.out); (case H => exact H); (case hm => (with_reducible repeat first | exact Pull.here | apply Pull.there)); clear H; (try clear W); intro W H) | ((with_reducible apply rsopen_arg HA.out Hd4.out); (case H => exact H); (case hm => (with_reducible repeat first | exact Pull.here | apply Pull.there)); clear H; (try clear W); intro W H))
          exact HR.out _ (Reord.use H (by ((repeat (with_reducible apply Reord.cons; (case p => (with_reducible repeat first | exact Pull.here | apply Pull.there)))); repeat (first | with_reducible exact Reord.rest | with_reducible apply Reord.drop))))
      · obtain ⟨fr, rfl⟩ : ∃ fr : Nat, F = fr := ⟨F.toNat, by omega⟩
        obtain ⟨mn, rfl⟩ : ∃ mn : Nat, M = mn := ⟨M.toNat, by omega⟩
        have hmn1 : 1 ≤ mn := by omega
        have hfs : fr + mn ≤ s := by omega
        have Hmn := Lib.hid hmn1
        have Hfs := Lib.hid hfs
        have Hfm : Hid (fr + mn ≤ d0.su.length) := Lib.hid (by rw [hz0.1]; exact hfs)
        have Hd4 : Hid (d0.su.length ≤ 4096) := Lib.hid (by rw [hz0.1]; omega)
        have Hdn : Hid (d0.no.length = d0.su.length) := Lib.hid (hz0.2.trans hz0.1.symm)
        have Hdl := Lib.hid hl0
        have HwZ : Hid (d0.wa.length ≤ 500000) := Lib.hid (by omega)
        have Hd0 := Lib.hid hd0
        rcases openR_cases d0 fr mn with ⟨d3, s3, hz3, f3, m3⟩ | ⟨d3, e3, hz3, he3⟩
        rotate_left
        · as_aux_lemma =>
            have heb : (e3 == 0) = false := by rw [beq_eq_false_iff_ne]; exact he3
            have Hz3 := Lib.hid hz3
            clear hA hz0 hl0 hw0 hd0 hz3 he3
            go_enter Tryz.func3, Tryz.ntmps3
            go_wp2_with (first | ((with_reducible refine wpl_absorb H ?_); clear H; (first | ((fail_if_success (have _t := q1)); generalize W.heap.size = q1) ); (try clear W); intro W H) | ((with_reducible apply wpl_load H); (case hs => exact sc _ rfl); (case hw | hx => rfl); (case hm => (with_reducible repeat first | exact mH | apply mT)); (case hv => rfl)) | ((with_reducible apply wpl_loadA H); (case hs => exact ag _ _ rfl); (case hw | hx => rfl); (case hm => (with_reducible repeat first | exact mH)); (case hv | hl => rfl); (try simp only [List.drop_zero, List.drop_succ_cons, List.take_succ_cons, List.take_zero, List.take_nil])) | ((with_reducible apply greatS_k h1 Hg.out); (case H => exact H); (case hb => (with_reducible repeat first | exact mH | apply mT)); clear H; (try clear W); intro W H) | ((with_reducible apply new_k s Hs0.out Hs1.out); (case H => exact H); clear H; (try clear W); rw [Hd0.out]; intro g0 v0 W H) | ((with_reducible apply rnew_k s Hs0.out Hs1.out); (case H => exact H); clear H; (try clear W); rw [Hd0.out]; intro gm0 vm0 W H) | ((with_reducible apply sopen_n fr mn rfl rfl Hfm.out Hmn.out HwZ.out Hz3.out); (case H => exact H); (case hm => (with_reducible repeat first | exact Pull.here | apply Pull.there)); clear H; (try clear W); intro v W H) | ((with_reducible apply rsopen_n fr mn rfl rfl Hfm.out Hmn.out Hd4.out Hdn.out Hdl.out HwZ.out Hz3.out); (case H => exact H); (case hm => (with_reducible repeat first | exact Pull.here | apply Pull.there)); clear H; (try clear W); intro vm W H))
            exact HR.out _ (Reord.use H (by ((repeat (with_reducible apply Reord.cons; (case p => (with_reducible repeat first | exact Pull.here | apply Pull.there)))); repeat (first | with_reducible exact Reord.rest | with_reducible apply Reord.drop))))
        · have hz3s := openR_sized fr mn hz0
          have hz3w := openR_wa d0 fr mn
          rw [hz3] at hz3s hz3w
          simp only at hz3s hz3w
          have Hz3 := Lib.hid hz3
          have Hs3 := Lib.hid hz3s
          have Hw3 : Hid (d3.wa.length ≤ 200) := Lib.hid (by omega)
          have Hf3 := Lib.hid f3
          have Hm3 := Lib.hid m3
          clear hA hz0 hl0 hw0 hd0 hz3 hz3s hz3w f3 m3
          go_enter Tryz.func3, Tryz.ntmps3
          go_wp2_with (first | ((with_reducible refine wpl_absorb H ?_); clear H; (first | ((fail_if_success (have _t := q1)); generalize W.heap.size = q1) ); (try clear W); intro W H) | ((with_reducible apply wpl_load H); (case hs => exact sc _ rfl); (case hw | hx => rfl); (case hm => (with_reducible repeat first | exact mH | apply mT)); (case hv => rfl)) | ((with_reducible apply wpl_loadA H); (case hs => exact ag _ _ rfl); (case hw | hx => rfl); (case hm => (with_reducible repeat first | exact mH)); (case hv | hl => rfl); (try simp only [List.drop_zero, List.drop_succ_cons, List.take_succ_cons, List.take_zero, List.take_nil])) | ((with_reducible apply greatS_k h1 Hg.out); (case H => exact H); (case hb => (with_reducible repeat first | exact mH | apply mT)); clear H; (try clear W); intro W H) | ((with_reducible apply new_k s Hs0.out Hs1.out); (case H => exact H); clear H; (try clear W); rw [Hd0.out]; intro g0 v0 W H) | ((with_reducible apply rnew_k s Hs0.out Hs1.out); (case H => exact H); clear H; (try clear W); rw [Hd0.out]; intro gm0 vm0 W H) | ((with_reducible apply sopen_y fr mn rfl rfl Hfm.out Hmn.out HwZ.out Hz3.out); (case H => exact H); (case hm => (with_reducible repeat first | exact Pull.here | apply Pull.there)); clear H; (try clear W); intro p2 vs v W H) | ((with_reducible apply rsopen_y fr mn rfl rfl Hfm.out Hmn.out Hd4.out Hdn.out Hdl.out HwZ.out Hz3.out); (case H => exact H); (case hm => (with_reducible repeat first | exact Pull.here | apply Pull.there)); clear H; (try clear W); intro pm2 vsm vm W H))
          replace H := H.alloc [.int .i64 0, .slice none 0 0, .slice none 0 0, .slice none 0 0, .slice none 0 0, .slice none 0 0, .slice none 0 0, .slice none 0 0, .slice none 0 0, .slice none 0 0] 49
          generalize W.heap.size = gk at H ⊢
          generalize W.alloc _ = W' at H ⊢
          replace H := bk_new H
          clear Hd0 Hdl Hdn Hd4 Hfm HwZ Hz3
          go_loopw [5, 7, 9, 10, 12] (fun dp cp sp mp i wr => ∃ (k g gm p pm : Nat) (v : Dv) (vm : Rv) (vs vsm : Sv) (d : Dd) (st : Sd) (B : Option Addr) (cb : Nat) (hs : List Hd), k ≤ n ∧ dp = .pointer (some ⟨g, 0, none⟩) ∧ cp = .pointer (some ⟨gm, 0, none⟩) ∧ sp = .pointer (some ⟨p, 0, none⟩) ∧ mp = .pointer (some ⟨pm, 0, none⟩) ∧ i = .int .i64 k ∧
            d.sized s ∧ st.fr = fr ∧ st.mn = mn ∧ d.wa.length ≤ 220 * k + 200 ∧ hs.length ≤ k ∧ Holds wr [dkE g v d, rdE gm vm d, stE p g vs st, rsE pm gm vsm st, bkE gk B cb hs, blk q1 [.int .i64 (s : Int), .int .i64 (fr : Int), .int .i64 (mn : Int)] 23, B0]) (fun _ _ _ _ i _ => n - (intOf i).toNat)
          case atStart => exact ⟨0, g0, gm0, p2, pm2, v, vm, vs, vsm, d3, s3, none, 0, [], by omega, rfl, rfl, rfl, rfl, rfl, Hs3.out, Hf3.out, Hm3.out, Hw3.out, Nat.zero_le _, Reord.use H (by ((repeat (with_reducible apply Reord.cons; (case p => (with_reducible repeat first | exact Pull.here | apply Pull.there)))); repeat (with_reducible exact Reord.rest)))⟩
          case round =>
            clear H W' v vm vs vsm Hs3 Hw3 Hf3 Hm3 v0 vm0
            obtain ⟨k, g, gm, p, pm, v, vm, vs, vsm, d, st, B, cb, hs, hk, rfl, rfl, rfl, rfl, rfl, hsz, hsf, hsmn, hwa, hhs, H⟩ := hrel
            rename World => W
            have Hsz := Lib.hid hsz
            have Hsf := Lib.hid hsf
            have Hsn := Lib.hid hsmn
            have Hsm : Hid (st.fr + st.mn ≤ d.su.length) := Lib.hid (by rw [hsz.1, hsf, hsmn]; exact Hfs.out)
            have Hnn : Hid (d.no.length = d.su.length) := Lib.hid (hsz.2.trans hsz.1.symm)
            by_cases hlt : k < n
            · have hki : (k : Int) < n := by omega
              obtain ⟨y, hy⟩ : ∃ y, acts[k]? = some y := ⟨_, List.getElem?_eq_getElem (by rw [h1.len]; omega)⟩
              have hat := h1.at_ k y hy
              have hb15 := Hb15.out y (List.mem_of_getElem? hy)
              obtain ⟨K, N, b, Mt, Y, kept⟩ := y
              obtain ⟨k0, k1, w1, ⟨A2, c2, k2, gb⟩, -, k3, w3, k4, ⟨A5, c5, k5, gk5⟩, l5⟩ := hat
              simp only at k0 k1 w1 k2 gb k3 w3 k4 k5 gk5 l5 hb15
              obtain ⟨a1, o1, rfl, -⟩ := (h1.head _ (show B0 ∈ [dkE g v d, rdE gm vm d, stE p g vs st, rsE pm gm vsm st, bkE gk B cb hs, blk q1 [.int .i64 (s : Int), .int .i64 (fr : Int), .int .i64 (mn : Int)] 23, B0] by simp) W H).at_ (by omega)
              have Hcells : Hid ((cs.drop (k * 6)).take 6 = [.int .u8 ((K.toNat : Nat) : Int), .int .i64 N, .slice A2 b.length c2, .int .i64 Mt, .int .u8 ((Y.toNat : Nat) : Int), .slice A5 kept.length c5]) := Lib.hid (take_six k0 k1 k2 k3 k4 k5)
              have Gb := Lib.hid gb
              have Gk := Lib.hid gk5
              have W1 := Lib.hid w1
              have Hbn : Hid (b.length ≤ 1000000) := Lib.hid (by omega)
              have Hb5 : Hid (b.length ≤ 100000) := Lib.hid (by omega)
              have Hwa : Hid (d.wa.length ≤ 220 * k + 200) := Lib.hid hwa
              have Hwl : Hid (d.wa.length ≤ 1000000) := Lib.hid (by omega)
              have Hwl5 : Hid (d.wa.length ≤ 500000) := Lib.hid (by omega)
              have Hhs : Hid (hs.length < 10000) := Lib.hid (by omega)
              have Hhs2 : Hid (hs.length ≤ k) := Lib.hid hhs
              clear k0 k1 k2 k3 k4 k5 gb gk5 w1 w3 l5 hwa hhs hb15 hy hsz hsf hsmn
              rcases kinds8 K (d.sync.2 = 9) ((addR d st b).2.2 = 9) with hA | hB
              · rcases hA with hK | ⟨hK, h9⟩ | ⟨q, hK, hq, h9⟩
                · as_aux_lemma =>
                    have HKd := Lib.hid hK
                    obtain ⟨d', hz⟩ : ∃ d', d.fuse N = d' := ⟨_, rfl⟩
                    have Hz := Lib.hid hz
                    have HsZ : Hid (d'.sized s) := Lib.hid (by rw [← hz]; exact Hsz.out)
                    have HwZ : Hid (d'.wa.length ≤ 220 * k + 220) := Lib.hid (by have := Hwa.out; rw [← hz]; exact Nat.le_trans this (by omega))
                    clear hK hz
                    go_wp2_with (first | ((with_reducible refine wpl_absorb H ?_); clear H; (first | ((fail_if_success (have _t := q2)); generalize W.heap.size = q2) ); (try clear W); intro W H) | ((with_reducible apply wpl_load H); (case hs => exact sc _ rfl); (case hw | hx => rfl); (case hm => (with_reducible repeat first | exact mH | apply mT)); (case hv => rfl)) | ((with_reducible apply wpl_store H); (case hw | hx | hy => rfl); (case hm => (with_reducible repeat first | exact Upd.here)); (case hs => exact sz_ag _ _ rfl); (case h1 => rfl); (case hk => exact Nat.le_of_ble_eq_true rfl); clear H; (try clear W); intro W H; first | simp only [setL, List.set_cons_zero, List.set_cons_succ] at H) | (rw [HKd.out]) | ((with_reducible apply wpl_loadR (vs := [.int .u8 ((K.toNat : Nat) : Int), .int .i64 N, .slice A2 b.length c2, .int .i64 Mt, .int .u8 ((Y.toNat : Nat) : Int), .slice A5 kept.length c5]) H); (case hs => exact ag _ _ rfl); (case hw | hx => rfl); (case hm => (refine h1.head _ ?_; (with_reducible repeat first | exact mH | apply mT))); (case hk | hn => omega); (case hv => exact Hcells.out)) | ((with_reducible apply tw_k (l := b)); (case H => exact H); (case hr => (refine Gb.out _ ?_; (with_reducible repeat first | exact mH | apply mT))); (case hn => exact Hbn.out); clear H; (try clear W); intro tq tc W H) | ((with_reducible apply dfuse_c N W1.out Hz.out); (case H => exact H); (case hm => (with_reducible repeat first | exact Pull.here | apply Pull.there)); clear H; (try clear W); intro W H) | ((with_reducible apply rfuse_c N W1.out Hz.out); (case H => exact H); (case hm => (with_reducible repeat first | exact Pull.here | apply Pull.there)); clear H; (try clear W); intro W H) | ((with_reducible apply slen_v); (case H => exact H); (case hm => (with_reducible repeat first | exact Pull.here | apply Pull.there)); (case hn => rfl); clear H; (try clear W); intro W H) | ((with_reducible apply rslen_v); (case H => exact H); (case hm => (with_reducible repeat first | exact Pull.here | apply Pull.there)); (case hn => rfl); clear H; (try clear W); intro W H) | ((with_reducible apply bytes_k); (case H => exact H); (case hm => (with_reducible repeat first | exact Pull.here | apply Pull.there)); (case hm2 => (with_reducible repeat first | exact Pull.here | apply Pull.there)); (case hn => exact Hb5.out); (case hx => exact bvs_length _); (case hlen => exact Hhs.out); clear H; (try clear W); intro B2 cb2 W H) | (go_simp; first | ((with_reducible apply sameD_k); (case H => exact H); (case hm => (with_reducible repeat first | exact Pull.here | apply Pull.there)); (case hm2 => (with_reducible repeat first | exact Pull.here)); clear H; (try clear W); intro W H) | ((with_reducible apply leftT_k); (case H => exact H); (case hn => exact Hbn.out); (case hl => rfl); (case u => (with_reducible repeat first | exact Upd.here | apply Upd.there)); (case G2 => (refine Gb.out _ ?_; (with_reducible repeat first | exact mH | apply mT))); clear H; (try clear W); intro W H) | ((with_reducible apply sleft_v); (case H => exact H); (case hm => (with_reducible repeat first | exact Pull.here | apply Pull.there)); (case hn => rfl); clear H; (try clear W); intro W H) | ((with_reducible apply rsleft_v); (case H => exact H); (case hm => (with_reducible repeat first | exact Pull.here | apply Pull.there)); (case hn => rfl); clear H; (try clear W); intro W H)))
                    have hh := Hhs2.out
                    exact ⟨⟨k + 1, g, gm, p, pm, v, vm, vs, vsm, d', _, B2, cb2, hs ++ [⟨some ⟨tq, 0, none⟩, b.length, tc, bvs b, none, 0, 0⟩], by omega, rfl, rfl, rfl, rfl, congrArg (Value.int .i64) (by omega), HsZ.out, Hsf.out, Hsn.out, Nat.le_trans HwZ.out (by omega), by rw [List.length_append, List.length_singleton]; omega, Reord.use H (by ((repeat (with_reducible apply Reord.cons; (case p => (with_reducible repeat first | exact Pull.here | apply Pull.there)))); repeat (first | with_reducible exact Reord.rest | with_reducible apply Reord.drop)))⟩, by simp only [intOf]; omega⟩
                · as_aux_lemma =>
                    have HKd := Lib.hid hK
                    obtain ⟨d', e, hz⟩ : ∃ d' e, d.sync = (d', e) := ⟨_, _, rfl⟩
                    have Hz := Lib.hid hz
                    rw [hz] at h9
                    have heb : (e == 9) = false := by rw [beq_eq_false_iff_ne]; exact h9
                    have HsZ : Hid (d'.sized s) := Lib.hid (by have := sync_sized Hsz.out; rw [hz] at this; exact this)
                    have HwZ : Hid (d'.wa.length ≤ 220 * k + 220) := Lib.hid (by have := Hwa.out; have h2 := sync_wa d; rw [hz] at h2; exact Nat.le_trans h2 (Nat.le_trans this (by omega)))
                    clear hK hz h9
                    go_wp2_with (first | ((with_reducible refine wpl_absorb H ?_); clear H; (first | ((fail_if_success (have _t := q2)); generalize W.heap.size = q2) ); (try clear W); intro W H) | ((with_reducible apply wpl_load H); (case hs => exact sc _ rfl); (case hw | hx => rfl); (case hm => (with_reducible repeat first | exact mH | apply mT)); (case hv => rfl)) | ((with_reducible apply wpl_store H); (case hw | hx | hy => rfl); (case hm => (with_reducible repeat first | exact Upd.here)); (case hs => exact sz_ag _ _ rfl); (case h1 => rfl); (case hk => exact Nat.le_of_ble_eq_true rfl); clear H; (try clear W); intro W H; first | simp only [setL, List.set_cons_zero, List.set_cons_succ] at H) | (rw [HKd.out]) | ((with_reducible apply wpl_loadR (vs := [.int .u8 ((K.toNat : Nat) : Int), .int .i64 N, .slice A2 b.length c2, .int .i64 Mt, .int .u8 ((Y.toNat : Nat) : Int), .slice A5 kept.length c5]) H); (case hs => exact ag _ _ rfl); (case hw | hx => rfl); (case hm => (refine h1.head _ ?_; (with_reducible repeat first | exact mH | apply mT))); (case hk | hn => omega); (case hv => exact Hcells.out)) | ((with_reducible apply tw_k (l := b)); (case H => exact H); (case hr => (refine Gb.out _ ?_; (with_reducible repeat first | exact mH | apply mT))); (case hn => exact Hbn.out); clear H; (try clear W); intro tq tc W H) | ((with_reducible apply ssync_c Hz.out); (case H => exact H); (case hm => (with_reducible repeat first | exact Pull.here | apply Pull.there)); (case hm2 => (with_reducible repeat first | exact Pull.here | apply Pull.there)); clear H; (try clear W); intro v W H) | ((with_reducible apply rssync_c Hz.out); (case H => exact H); (case hm => (with_reducible repeat first | exact Pull.here | apply Pull.there)); (case hm2 => (with_reducible repeat first | exact Pull.here | apply Pull.there)); clear H; (try clear W); intro vm W H) | ((with_reducible apply slen_v); (case H => exact H); (case hm => (with_reducible repeat first | exact Pull.here | apply Pull.there)); (case hn => rfl); clear H; (try clear W); intro W H) | ((with_reducible apply rslen_v); (case H => exact H); (case hm => (with_reducible repeat first | exact Pull.here | apply Pull.there)); (case hn => rfl); clear H; (try clear W); intro W H) | ((with_reducible apply bytes_k); (case H => exact H); (case hm => (with_reducible repeat first | exact Pull.here | apply Pull.there)); (case hm2 => (with_reducible repeat first | exact Pull.here | apply Pull.there)); (case hn => exact Hb5.out); (case hx => exact bvs_length _); (case hlen => exact Hhs.out); clear H; (try clear W); intro B2 cb2 W H) | (go_simp; first | ((with_reducible apply sameD_k); (case H => exact H); (case hm => (with_reducible repeat first | exact Pull.here | apply Pull.there)); (case hm2 => (with_reducible repeat first | exact Pull.here)); clear H; (try clear W); intro W H) | ((with_reducible apply leftT_k); (case H => exact H); (case hn => exact Hbn.out); (case hl => rfl); (case u => (with_reducible repeat first | exact Upd.here | apply Upd.there)); (case G2 => (refine Gb.out _ ?_; (with_reducible repeat first | exact mH | apply mT))); clear H; (try clear W); intro W H) | ((with_reducible apply sleft_v); (case H => exact H); (case hm => (with_reducible repeat first | exact Pull.here | apply Pull.there)); (case hn => rfl); clear H; (try clear W); intro W H) | ((with_reducible apply rsleft_v); (case H => exact H); (case hm => (with_reducible repeat first | exact Pull.here | apply Pull.there)); (case hn => rfl); clear H; (try clear W); intro W H)))
                    have hh := Hhs2.out
                    exact ⟨⟨k + 1, g, gm, p, pm, v, vm, vs, vsm, d', _, B2, cb2, hs ++ [⟨some ⟨tq, 0, none⟩, b.length, tc, bvs b, none, 0, 0⟩], by omega, rfl, rfl, rfl, rfl, congrArg (Value.int .i64) (by omega), HsZ.out, Hsf.out, Hsn.out, Nat.le_trans HwZ.out (by omega), by rw [List.length_append, List.length_singleton]; omega, Reord.use H (by ((repeat (with_reducible apply Reord.cons; (case p => (with_reducible repeat first | exact Pull.here | apply Pull.there)))); repeat (first | with_reducible exact Reord.rest | with_reducible apply Reord.drop)))⟩, by simp only [intOf]; omega⟩
                · as_aux_lemma =>
                    have HKd := Lib.hid hK
                    have q4 : ((q : Int) == 4) = false := by rw [beq_eq_false_iff_ne]; omega
                    have q5 : ((q : Int) == 5) = false := by rw [beq_eq_false_iff_ne]; omega
                    have q6 : ((q : Int) == 6) = false := by rw [beq_eq_false_iff_ne]; omega
                    have q7 : ((q : Int) == 7) = false := by rw [beq_eq_false_iff_ne]; omega
                    have q8 : ((q : Int) == 8) = false := by rw [beq_eq_false_iff_ne]; omega
                    obtain ⟨d', st', e, hz⟩ : ∃ d' st' e, addR d st b = (d', st', e) := ⟨_, _, _, rfl⟩
                    have Hz := Lib.hid hz
                    rw [hz] at h9
                    have heb : (e == 9) = false := by rw [beq_eq_false_iff_ne]; exact h9
                    have HsZ : Hid (d'.sized s) := Lib.hid (by have := addR_sized st b Hsz.out; rw [hz] at this; exact this)
                    have HwZ : Hid (d'.wa.length ≤ 220 * k + 220) := Lib.hid (by have := Hwa.out; have h2 := addR_wa d st b; rw [hz] at h2; exact Nat.le_trans h2 (by omega))
                    have hpl := addR_place hz
                    have Hsf' : Hid (st'.fr = fr) := Lib.hid (hpl.1.trans Hsf.out)
                    have Hsn' : Hid (st'.mn = mn) := Lib.hid (hpl.2.trans Hsn.out)
                    clear hK hz h9 hpl hq Hsf Hsn
                    go_wp2_with (first | ((with_reducible refine wpl_absorb H ?_); clear H; (first | ((fail_if_success (have _t := q2)); generalize W.heap.size = q2) ); (try clear W); intro W H) | ((with_reducible apply wpl_load H); (case hs => exact sc _ rfl); (case hw | hx => rfl); (case hm => (with_reducible repeat first | exact mH | apply mT)); (case hv => rfl)) | ((with_reducible apply wpl_store H); (case hw | hx | hy => rfl); (case hm => (with_reducible repeat first | exact Upd.here)); (case hs => exact sz_ag _ _ rfl); (case h1 => rfl); (case hk => exact Nat.le_of_ble_eq_true rfl); clear H; (try clear W); intro W H; first | simp only [setL, List.set_cons_zero, List.set_cons_succ] at H) | (rw [HKd.out]) | ((with_reducible apply wpl_loadR (vs := [.int .u8 ((K.toNat : Nat) : Int), .int .i64 N, .slice A2 b.length c2, .int .i64 Mt, .int .u8 ((Y.toNat : Nat) : Int), .slice A5 kept.length c5]) H); (case hs => exact ag _ _ rfl); (case hw | hx => rfl); (case hm => (refine h1.head _ ?_; (with_reducible repeat first | exact mH | apply mT))); (case hk | hn => omega); (case hv => exact Hcells.out)) | ((with_reducible apply tw_k (l := b)); (case H => exact H); (case hr => (refine Gb.out _ ?_; (with_reducible repeat first | exact mH | apply mT))); (case hn => exact Hbn.out); clear H; (try clear W); intro tq tc W H) | ((with_reducible apply sadd_c Hz.out Hwl5.out Hsm.out); (case H => exact H); (case hm => (with_reducible repeat first | exact Pull.here | apply Pull.there)); (case hm2 => (with_reducible repeat first | exact Pull.here | apply Pull.there)); (case G => (apply gives_tw; (case h => (with_reducible repeat first | exact mH)); (case hl => rfl))); clear H; (try clear W); intro vs v W H) | ((with_reducible apply rsadd_c Hz.out Hwl5.out Hsm.out Hnn.out); (case H => exact H); (case hm => (with_reducible repeat first | exact Pull.here | apply Pull.there)); (case hm2 => (with_reducible repeat first | exact Pull.here | apply Pull.there)); (case G => (refine Gb.out _ ?_; (with_reducible repeat first | exact mH | apply mT))); clear H; (try clear W); intro vsm vm W H) | ((with_reducible apply slen_v); (case H => exact H); (case hm => (with_reducible repeat first | exact Pull.here | apply Pull.there)); (case hn => rfl); clear H; (try clear W); intro W H) | ((with_reducible apply rslen_v); (case H => exact H); (case hm => (with_reducible repeat first | exact Pull.here | apply Pull.there)); (case hn => rfl); clear H; (try clear W); intro W H) | ((with_reducible apply bytes_k); (case H => exact H); (case hm => (with_reducible repeat first | exact Pull.here | apply Pull.there)); (case hm2 => (with_reducible repeat first | exact Pull.here | apply Pull.there)); (case hn => exact Hb5.out); (case hx => exact bvs_length _); (case hlen => exact Hhs.out); clear H; (try clear W); intro B2 cb2 W H) | (go_simp; first | ((with_reducible apply sameD_k); (case H => exact H); (case hm => (with_reducible repeat first | exact Pull.here | apply Pull.there)); (case hm2 => (with_reducible repeat first | exact Pull.here | apply Pull.there)); clear H; (try clear W); intro W H) | ((with_reducible apply leftT_k); (case H => exact H); (case hn => exact Hbn.out); (case hl => rfl); (case u => (with_reducible repeat first | exact Upd.here | apply Upd.there)); (case G2 => (refine Gb.out _ ?_; (with_reducible repeat first | exact mH | apply mT))); clear H; (try clear W); intro W H) | ((with_reducible apply sleft_v); (case H => exact H); (case hm => (with_reducible repeat first | exact Pull.here | apply Pull.there)); (case hn => rfl); clear H; (try clear W); intro W H) | ((with_reducible apply rsleft_v); (case H => exact H); (case hm => (with_reducible repeat first | exact Pull.here | apply Pull.there)); (case hn => rfl); clear H; (try clear W); intro W H)))
                    have Hsf := Hsf'
                    have Hsn := Hsn'
                    have hh := Hhs2.out
                    exact ⟨⟨k + 1, g, gm, p, pm, v, vm, vs, vsm, d', _, B2, cb2, hs ++ [⟨some ⟨tq, 0, none⟩, b.length, tc, bvs b, none, 0, 0⟩], by omega, rfl, rfl, rfl, rfl, congrArg (Value.int .i64) (by omega), HsZ.out, Hsf.out, Hsn.out, Nat.le_trans HwZ.out (by omega), by rw [List.length_append, List.length_singleton]; omega, Reord.use H (by ((repeat (with_reducible apply Reord.cons; (case p => (with_reducible repeat first | exact Pull.here | apply Pull.there)))); repeat (first | with_reducible exact Reord.rest | with_reducible apply Reord.drop)))⟩, by simp only [intOf]; omega⟩
              · rcases hB with ⟨hK, h9⟩ | ⟨q, hK, hq, h9⟩ | hK | hK | hK
                · as_aux_lemma =>
                    have HKd := Lib.hid hK
                    obtain ⟨d', e, hz⟩ : ∃ d' e, d.sync = (d', e) := ⟨_, _, rfl⟩
                    have Hz := Lib.hid hz
                    rw [hz] at h9
                    simp only at h9
                    subst h9
                    obtain ⟨dz, hz1⟩ : ∃ dz, d'.fuse (-1) = dz := ⟨_, rfl⟩
                    have Hz1 := Lib.hid hz1
                    have HsZ : Hid (dz.sized s) := Lib.hid (by have := sync_sized Hsz.out; rw [hz] at this; rw [← hz1]; exact this)
                    have HwY : Hid (dz.wa.length ≤ 220 * k + 210) := Lib.hid (by have := Hwa.out; have h2 := sync_wa d; rw [hz] at h2; rw [← hz1]; exact Nat.le_trans h2 (Nat.le_trans this (by omega)))
                    clear hK hz hz1
                    go_wp2_with (first | ((with_reducible refine wpl_absorb H ?_); clear H; (first | ((fail_if_success (have _t := q2)); generalize W.heap.size = q2) ); (try clear W); intro W H) | ((with_reducible apply wpl_load H); (case hs => exact sc _ rfl); (case hw | hx => rfl); (case hm => (with_reducible repeat first | exact mH | apply mT)); (case hv => rfl)) | ((with_reducible apply wpl_store H); (case hw | hx | hy => rfl); (case hm => (with_reducible repeat first | exact Upd.here)); (case hs => exact sz_ag _ _ rfl); (case h1 => rfl); (case hk => exact Nat.le_of_ble_eq_true rfl); clear H; (try clear W); intro W H; first | simp only [setL, List.set_cons_zero, List.set_cons_succ] at H) | (rw [HKd.out]) | ((with_reducible apply wpl_loadR (vs := [.int .u8 ((K.toNat : Nat) : Int), .int .i64 N, .slice A2 b.length c2, .int .i64 Mt, .int .u8 ((Y.toNat : Nat) : Int), .slice A5 kept.length c5]) H); (case hs => exact ag _ _ rfl); (case hw | hx => rfl); (case hm => (refine h1.head _ ?_; (with_reducible repeat first | exact mH | apply mT))); (case hk | hn => omega); (case hv => exact Hcells.out)) | ((with_reducible apply tw_k (l := b)); (case H => exact H); (case hr => (refine Gb.out _ ?_; (with_reducible repeat first | exact mH | apply mT))); (case hn => exact Hbn.out); clear H; (try clear W); intro tq tc W H) | ((with_reducible apply ssync_c Hz.out); (case H => exact H); (case hm => (with_reducible repeat first | exact Pull.here | apply Pull.there)); (case hm2 => (with_reducible repeat first | exact Pull.here | apply Pull.there)); clear H; (try clear W); intro v W H) | ((with_reducible apply rssync_c Hz.out); (case H => exact H); (case hm => (with_reducible repeat first | exact Pull.here | apply Pull.there)); (case hm2 => (with_reducible repeat first | exact Pull.here | apply Pull.there)); clear H; (try clear W); intro vm W H) | ((with_reducible apply dfuse_c (-1) rfl Hz1.out); (case H => exact H); (case hm => (with_reducible repeat first | exact Pull.here)); clear H; (try clear W); intro W H) | ((with_reducible apply rfuse_c (-1) rfl Hz1.out); (case H => exact H); (case hm => (with_reducible repeat first | exact Pull.here | apply Pull.there)); clear H; (try clear W); intro W H) | (go_simp; first | ((with_reducible apply sameD_k); (case H => exact H); (case hm => (with_reducible repeat first | exact Pull.here | apply Pull.there)); (case hm2 => (with_reducible repeat first | exact Pull.here)); clear H; (try clear W); intro W H) | ((with_reducible apply leftT_k); (case H => exact H); (case hn => exact Hbn.out); (case hl => rfl); (case u => (with_reducible repeat first | exact Upd.here | apply Upd.there)); (case G2 => (refine Gb.out _ ?_; (with_reducible repeat first | exact mH | apply mT))); clear H; (try clear W); intro W H)))
                    obtain ⟨g2, hg2⟩ : ∃ x, x = g := ⟨_, rfl⟩
                    subst hg2
                    obtain ⟨gm2, hgm2⟩ : ∃ x, x = gm := ⟨_, rfl⟩
                    subst hgm2
                    clear Hsm Hnn Hwl Hwl5 Hsz Hwa
                    have ho := dkE_ok (g := g2) (v := v) (d := dz) H (by (with_reducible repeat first | exact mH | assumption | apply mT))
                    have Hd4 : Hid (dz.su.length ≤ 4096) := Lib.hid ho.n1
                    have Hdn : Hid (dz.no.length = dz.su.length) := Lib.hid ho.nn
                    have Hdl := Lib.hid ho.nl
                    have Hfm : Hid (fr + mn ≤ dz.su.length) := Lib.hid (by rw [HsZ.out.1]; exact Hfs.out)
                    have HwZ : Hid (dz.wa.length ≤ 500000) := Lib.hid (Nat.le_trans HwY.out (by omega))
                    clear ho
                    rcases openR_cases dz fr mn with ⟨d3, s3, hz3, f3, m3⟩ | ⟨d3, e3, hz3, he3⟩
                    · as_aux_lemma =>
                        have hz3s := openR_sized fr mn HsZ.out
                        have hz3w := openR_wa dz fr mn
                        rw [hz3] at hz3s hz3w
                        simp only at hz3s hz3w
                        have Hz3 := Lib.hid hz3
                        have Hs3 := Lib.hid hz3s
                        have hms : mn ≤ 200 := by have := Hfs.out; omega
                        have Hw3 : Hid (d3.wa.length ≤ 220 * (k + 1) + 200) := Lib.hid (by have := HwY.out; omega)
                        have Hf3 := Lib.hid f3
                        have Hm3 := Lib.hid m3
                        clear hz3 hz3s hz3w f3 m3
                        go_wp2_with (first | ((with_reducible apply wpl_load H); (case hs => exact sc _ rfl); (case hw | hx => rfl); (case hm => (with_reducible repeat first | exact mH | apply mT)); (case hv => rfl)) | ((with_reducible apply sopen_y fr mn rfl rfl Hfm.out Hmn.out HwZ.out Hz3.out); (case H => exact H); (case hm => (with_reducible repeat first | exact Pull.here | apply Pull.there)); clear H; (try clear W); intro p2 vs v W H) | ((with_reducible apply rsopen_y fr mn rfl rfl Hfm.out Hmn.out Hd4.out Hdn.out Hdl.out HwZ.out Hz3.out); (case H => exact H); (case hm => (with_reducible repeat first | exact Pull.here | apply Pull.there)); clear H; (try clear W); intro pm2 vsm vm W H) | ((with_reducible apply slen_v); (case H => exact H); (case hm => (with_reducible repeat first | exact Pull.here | apply Pull.there)); (case hn => rfl); clear H; (try clear W); intro W H) | ((with_reducible apply rslen_v); (case H => exact H); (case hm => (with_reducible repeat first | exact Pull.here | apply Pull.there)); (case hn => rfl); clear H; (try clear W); intro W H) | ((with_reducible apply bytes_k); (case H => exact H); (case hm => (with_reducible repeat first | exact Pull.here | apply Pull.there)); (case hm2 => (with_reducible repeat first | exact Pull.here | apply Pull.there)); (case hn => exact Hb5.out); (case hx => exact bvs_length _); (case hlen => exact Hhs.out); clear H; (try clear W); intro B2 cb2 W H) | (go_simp; first | ((with_reducible apply sameD_k); (case H => exact H); (case hm => (with_reducible repeat first | exact Pull.here | apply Pull.there)); (case hm2 => (with_reducible repeat first | exact Pull.here | apply Pull.there)); clear H; (try clear W); intro W H) | ((with_reducible apply sleft_v); (case H => exact H); (case hm => (with_reducible repeat first | exact Pull.here | apply Pull.there)); (case hn => rfl); clear H; (try clear W); intro W H) | ((with_reducible apply rsleft_v); (case H => exact H); (case hm => (with_reducible repeat first | exact Pull.here | apply Pull.there)); (case hn => rfl); clear H; (try clear W); intro W H)))
                        have hh := Hhs2.out
                        exact ⟨⟨k + 1, g2, gm2, p2, pm2, v, vm, vs, vsm, d3, s3, B2, cb2, hs ++ [⟨some ⟨tq, 0, none⟩, b.length, tc, bvs b, none, 0, 0⟩], by omega, rfl, rfl, rfl, rfl, congrArg (Value.int .i64) (by omega), Hs3.out, Hf3.out, Hm3.out, Hw3.out, by rw [List.length_append, List.length_singleton]; omega, Reord.use H (by ((repeat (with_reducible apply Reord.cons; (case p => (with_reducible repeat first | exact Pull.here | apply Pull.there)))); repeat (first | with_reducible exact Reord.rest | with_reducible apply Reord.drop)))⟩, by simp only [intOf]; omega⟩
                    · as_aux_lemma =>
                        have heb3 : (e3 == 0) = false := by rw [beq_eq_false_iff_ne]; exact he3
                        have Hz3 := Lib.hid hz3
                        clear hz3 he3
                        go_wp2_with (first | ((with_reducible apply wpl_load H); (case hs => exact sc _ rfl); (case hw | hx => rfl); (case hm => (with_reducible repeat first | exact mH | apply mT)); (case hv => rfl)) | ((with_reducible apply sopen_n fr mn rfl rfl Hfm.out Hmn.out HwZ.out Hz3.out); (case H => exact H); (case hm => (with_reducible repeat first | exact Pull.here | apply Pull.there)); clear H; (try clear W); intro v W H) | ((with_reducible apply rsopen_n fr mn rfl rfl Hfm.out Hmn.out Hd4.out Hdn.out Hdl.out HwZ.out Hz3.out); (case H => exact H); (case hm => (with_reducible repeat first | exact Pull.here | apply Pull.there)); clear H; (try clear W); intro vm W H) | (go_simp; first | ((with_reducible apply sameD_k); (case H => exact H); (case hm => (with_reducible repeat first | exact Pull.here | apply Pull.there)); (case hm2 => (with_reducible repeat first | exact Pull.here)); clear H; (try clear W); intro W H) | ((with_reducible apply apart_k); (case H => exact H); (case hm => (with_reducible repeat first | exact Pull.here | apply Pull.there)); clear H; (try clear W); intro W H)))
                        exact HR.out _ (Reord.use H (by ((repeat (with_reducible apply Reord.cons; (case p => (with_reducible repeat first | exact Pull.here | apply Pull.there)))); repeat (first | with_reducible exact Reord.rest | with_reducible apply Reord.drop))))
                · as_aux_lemma =>
                    have HKd := Lib.hid hK
                    have q4 : ((q : Int) == 4) = false := by rw [beq_eq_false_iff_ne]; omega
                    have q5 : ((q : Int) == 5) = false := by rw [beq_eq_false_iff_ne]; omega
                    have q6 : ((q : Int) == 6) = false := by rw [beq_eq_false_iff_ne]; omega
                    have q7 : ((q : Int) == 7) = false := by rw [beq_eq_false_iff_ne]; omega
                    have q8 : ((q : Int) == 8) = false := by rw [beq_eq_false_iff_ne]; omega
                    have q7n : ((q : Int) != 7) = true := by rw [bne, q7]; rfl
                    have q8n : ((q : Int) != 8) = true := by rw [bne, q8]; rfl
                    have q7p : ¬ (q : Int) = 7 := by omega
                    have q8p : ¬ (q : Int) = 8 := by omega
                    obtain ⟨d', st', e, hz⟩ : ∃ d' st' e, addR d st b = (d', st', e) := ⟨_, _, _, rfl⟩
                    have Hz := Lib.hid hz
                    rw [hz] at h9
                    simp only at h9
                    subst h9
                    obtain ⟨dz, hz1⟩ : ∃ dz, d'.fuse (-1) = dz := ⟨_, rfl⟩
                    have Hz1 := Lib.hid hz1
                    have HsZ : Hid (dz.sized s) := Lib.hid (by have := addR_sized st b Hsz.out; rw [hz] at this; rw [← hz1]; exact this)
                    have HwY : Hid (dz.wa.length ≤ 220 * k + 210) := Lib.hid (by have := Hwa.out; have h2 := addR_wa d st b; rw [hz] at h2; rw [← hz1]; exact Nat.le_trans h2 (by omega))
                    clear hK hz hq hz1
                    go_wp2_with (first | ((with_reducible refine wpl_absorb H ?_); clear H; (first | ((fail_if_success (have _t := q2)); generalize W.heap.size = q2) ); (try clear W); intro W H) | ((with_reducible apply wpl_load H); (case hs => exact sc _ rfl); (case hw | hx => rfl); (case hm => (with_reducible repeat first | exact mH | apply mT)); (case hv => rfl)) | ((with_reducible apply wpl_store H); (case hw | hx | hy => rfl); (case hm => (with_reducible repeat first | exact Upd.here)); (case hs => exact sz_ag _ _ rfl); (case h1 => rfl); (case hk => exact Nat.le_of_ble_eq_true rfl); clear H; (try clear W); intro W H; first | simp only [setL, List.set_cons_zero, List.set_cons_succ] at H) | (rw [HKd.out]) | ((with_reducible apply wpl_loadR (vs := [.int .u8 ((K.toNat : Nat) : Int), .int .i64 N, .slice A2 b.length c2, .int .i64 Mt, .int .u8 ((Y.toNat : Nat) : Int), .slice A5 kept.length c5]) H); (case hs => exact ag _ _ rfl); (case hw | hx => rfl); (case hm => (refine h1.head _ ?_; (with_reducible repeat first | exact mH | apply mT))); (case hk | hn => omega); (case hv => exact Hcells.out)) | ((with_reducible apply tw_k (l := b)); (case H => exact H); (case hr => (refine Gb.out _ ?_; (with_reducible repeat first | exact mH | apply mT))); (case hn => exact Hbn.out); clear H; (try clear W); intro tq tc W H) | ((with_reducible apply sadd_c Hz.out Hwl5.out Hsm.out); (case H => exact H); (case hm => (with_reducible repeat first | exact Pull.here | apply Pull.there)); (case hm2 => (with_reducible repeat first | exact Pull.here | apply Pull.there)); (case G => (apply gives_tw; (case h => (with_reducible repeat first | exact mH)); (case hl => rfl))); clear H; (try clear W); intro vs v W H) | ((with_reducible apply rsadd_c Hz.out Hwl5.out Hsm.out Hnn.out); (case H => exact H); (case hm => (with_reducible repeat first | exact Pull.here | apply Pull.there)); (case hm2 => (with_reducible repeat first | exact Pull.here | apply Pull.there)); (case G => (refine Gb.out _ ?_; (with_reducible repeat first | exact mH | apply mT))); clear H; (try clear W); intro vsm vm W H) | ((with_reducible apply dfuse_c (-1) rfl Hz1.out); (case H => exact H); (case hm => (with_reducible repeat first | exact Pull.here)); clear H; (try clear W); intro W H) | ((with_reducible apply rfuse_c (-1) rfl Hz1.out); (case H => exact H); (case hm => (with_reducible repeat first | exact Pull.here | apply Pull.there)); clear H; (try clear W); intro W H) | (go_simp; first | ((with_reducible apply sameD_k); (case H => exact H); (case hm => (with_reducible repeat first | exact Pull.here | apply Pull.there)); (case hm2 => (with_reducible repeat first | exact Pull.here | apply Pull.there)); clear H; (try clear W); intro W H) | ((with_reducible apply leftT_k); (case H => exact H); (case hn => exact Hbn.out); (case hl => rfl); (case u => (with_reducible repeat first | exact Upd.here | apply Upd.there)); (case G2 => (refine Gb.out _ ?_; (with_reducible repeat first | exact mH | apply mT))); clear H; (try clear W); intro W H)))
                    obtain ⟨g2, hg2⟩ : ∃ x, x = g := ⟨_, rfl⟩
                    subst hg2
                    obtain ⟨gm2, hgm2⟩ : ∃ x, x = gm := ⟨_, rfl⟩
                    subst hgm2
                    clear Hsm Hnn Hwl Hwl5 Hsz Hwa
                    have ho := dkE_ok (g := g2) (v := v) (d := dz) H (by (with_reducible repeat first | exact mH | assumption | apply mT))
                    have Hd4 : Hid (dz.su.length ≤ 4096) := Lib.hid ho.n1
                    have Hdn : Hid (dz.no.length = dz.su.length) := Lib.hid ho.nn
                    have Hdl := Lib.hid ho.nl
                    have Hfm : Hid (fr + mn ≤ dz.su.length) := Lib.hid (by rw [HsZ.out.1]; exact Hfs.out)
                    have HwZ : Hid (dz.wa.length ≤ 500000) := Lib.hid (Nat.le_trans HwY.out (by omega))
                    clear ho
                    rcases openR_cases dz fr mn with ⟨d3, s3, hz3, f3, m3⟩ | ⟨d3, e3, hz3, he3⟩
                    · as_aux_lemma =>
                        have hz3s := openR_sized fr mn HsZ.out
                        have hz3w := openR_wa dz fr mn
                        rw [hz3] at hz3s hz3w
                        simp only at hz3s hz3w
                        have Hz3 := Lib.hid hz3
                        have Hs3 := Lib.hid hz3s
                        have hms : mn ≤ 200 := by have := Hfs.out; omega
                        have Hw3 : Hid (d3.wa.length ≤ 220 * (k + 1) + 200) := Lib.hid (by have := HwY.out; omega)
                        have Hf3 := Lib.hid f3
                        have Hm3 := Lib.hid m3
                        clear hz3 hz3s hz3w f3 m3
                        go_wp2_with (first | ((with_reducible apply wpl_load H); (case hs => exact sc _ rfl); (case hw | hx => rfl); (case hm => (with_reducible repeat first | exact mH | apply mT)); (case hv => rfl)) | ((with_reducible apply sopen_y fr mn rfl rfl Hfm.out Hmn.out HwZ.out Hz3.out); (case H => exact H); (case hm => (with_reducible repeat first | exact Pull.here | apply Pull.there)); clear H; (try clear W); intro p2 vs v W H) | ((with_reducible apply rsopen_y fr mn rfl rfl Hfm.out Hmn.out Hd4.out Hdn.out Hdl.out HwZ.out Hz3.out); (case H => exact H); (case hm => (with_reducible repeat first | exact Pull.here | apply Pull.there)); clear H; (try clear W); intro pm2 vsm vm W H) | ((with_reducible apply slen_v); (case H => exact H); (case hm => (with_reducible repeat first | exact Pull.here | apply Pull.there)); (case hn => rfl); clear H; (try clear W); intro W H) | ((with_reducible apply rslen_v); (case H => exact H); (case hm => (with_reducible repeat first | exact Pull.here | apply Pull.there)); (case hn => rfl); clear H; (try clear W); intro W H) | ((with_reducible apply bytes_k); (case H => exact H); (case hm => (with_reducible repeat first | exact Pull.here | apply Pull.there)); (case hm2 => (with_reducible repeat first | exact Pull.here | apply Pull.there)); (case hn => exact Hb5.out); (case hx => exact bvs_length _); (case hlen => exact Hhs.out); clear H; (try clear W); intro B2 cb2 W H) | (go_simp; first | ((with_reducible apply sameD_k); (case H => exact H); (case hm => (with_reducible repeat first | exact Pull.here | apply Pull.there)); (case hm2 => (with_reducible repeat first | exact Pull.here | apply Pull.there)); clear H; (try clear W); intro W H) | ((with_reducible apply sleft_v); (case H => exact H); (case hm => (with_reducible repeat first | exact Pull.here | apply Pull.there)); (case hn => rfl); clear H; (try clear W); intro W H) | ((with_reducible apply rsleft_v); (case H => exact H); (case hm => (with_reducible repeat first | exact Pull.here | apply Pull.there)); (case hn => rfl); clear H; (try clear W); intro W H)))
                        have hh := Hhs2.out
                        exact ⟨⟨k + 1, g2, gm2, p2, pm2, v, vm, vs, vsm, d3, s3, B2, cb2, hs ++ [⟨some ⟨tq, 0, none⟩, b.length, tc, bvs b, none, 0, 0⟩], by omega, rfl, rfl, rfl, rfl, congrArg (Value.int .i64) (by omega), Hs3.out, Hf3.out, Hm3.out, Hw3.out, by rw [List.length_append, List.length_singleton]; omega, Reord.use H (by ((repeat (with_reducible apply Reord.cons; (case p => (with_reducible repeat first | exact Pull.here | apply Pull.there)))); repeat (first | with_reducible exact Reord.rest | with_reducible apply Reord.drop)))⟩, by simp only [intOf]; omega⟩
                    · as_aux_lemma =>
                        have heb3 : (e3 == 0) = false := by rw [beq_eq_false_iff_ne]; exact he3
                        have Hz3 := Lib.hid hz3
                        clear hz3 he3
                        go_wp2_with (first | ((with_reducible apply wpl_load H); (case hs => exact sc _ rfl); (case hw | hx => rfl); (case hm => (with_reducible repeat first | exact mH | apply mT)); (case hv => rfl)) | ((with_reducible apply sopen_n fr mn rfl rfl Hfm.out Hmn.out HwZ.out Hz3.out); (case H => exact H); (case hm => (with_reducible repeat first | exact Pull.here | apply Pull.there)); clear H; (try clear W); intro v W H) | ((with_reducible apply rsopen_n fr mn rfl rfl Hfm.out Hmn.out Hd4.out Hdn.out Hdl.out HwZ.out Hz3.out); (case H => exact H); (case hm => (with_reducible repeat first | exact Pull.here | apply Pull.there)); clear H; (try clear W); intro vm W H) | (go_simp; first | ((with_reducible apply sameD_k); (case H => exact H); (case hm => (with_reducible repeat first | exact Pull.here | apply Pull.there)); (case hm2 => (with_reducible repeat first | exact Pull.here)); clear H; (try clear W); intro W H) | ((with_reducible apply apart_k); (case H => exact H); (case hm => (with_reducible repeat first | exact Pull.here | apply Pull.there)); clear H; (try clear W); intro W H)))
                        exact HR.out _ (Reord.use H (by ((repeat (with_reducible apply Reord.cons; (case p => (with_reducible repeat first | exact Pull.here | apply Pull.there)))); repeat (first | with_reducible exact Reord.rest | with_reducible apply Reord.drop))))
                · as_aux_lemma =>
                    have HKd := Lib.hid hK
                    obtain ⟨d', hz⟩ : ∃ d', d.failD kept = d' := ⟨_, rfl⟩
                    have Hz := Lib.hid hz
                    obtain ⟨dz, hz1⟩ : ∃ dz, d'.fuse (-1) = dz := ⟨_, rfl⟩
                    have Hz1 := Lib.hid hz1
                    have HsZ : Hid (dz.sized s) := Lib.hid (by rw [← hz1, ← hz]; exact fuse_sized (-1) (failD_sized kept Hsz.out))
                    have HwY : Hid (dz.wa.length ≤ 220 * k + 210) := Lib.hid (by rw [← hz1, ← hz]; exact Nat.zero_le _)
                    clear hK hz hz1
                    go_wp2_with (first | ((with_reducible refine wpl_absorb H ?_); clear H; (first | ((fail_if_success (have _t := q2)); generalize W.heap.size = q2) ); (try clear W); intro W H) | ((with_reducible apply wpl_load H); (case hs => exact sc _ rfl); (case hw | hx => rfl); (case hm => (with_reducible repeat first | exact mH | apply mT)); (case hv => rfl)) | ((with_reducible apply wpl_store H); (case hw | hx | hy => rfl); (case hm => (with_reducible repeat first | exact Upd.here)); (case hs => exact sz_ag _ _ rfl); (case h1 => rfl); (case hk => exact Nat.le_of_ble_eq_true rfl); clear H; (try clear W); intro W H; first | simp only [setL, List.set_cons_zero, List.set_cons_succ] at H) | (rw [HKd.out]) | ((with_reducible apply wpl_loadR (vs := [.int .u8 ((K.toNat : Nat) : Int), .int .i64 N, .slice A2 b.length c2, .int .i64 Mt, .int .u8 ((Y.toNat : Nat) : Int), .slice A5 kept.length c5]) H); (case hs => exact ag _ _ rfl); (case hw | hx => rfl); (case hm => (refine h1.head _ ?_; (with_reducible repeat first | exact mH | apply mT))); (case hk | hn => omega); (case hv => exact Hcells.out)) | ((with_reducible apply tw_k (l := b)); (case H => exact H); (case hr => (refine Gb.out _ ?_; (with_reducible repeat first | exact mH | apply mT))); (case hn => exact Hbn.out); clear H; (try clear W); intro tq tc W H) | ((with_reducible apply dfail_c kept Hz.out); (case H => exact H); (case hm => (with_reducible repeat first | exact Pull.here | apply Pull.there)); (case hr => (refine Gk.out _ ?_; (with_reducible repeat first | exact mH | apply mT))); (case hlen => exact Hwl.out); clear H; (try clear W); intro g2 v W H) | ((with_reducible apply rfail_c kept Hz.out); (case H => exact H); (case hm => (with_reducible repeat first | exact Pull.here | apply Pull.there)); (case hr => (refine Gk.out _ ?_; (with_reducible repeat first | exact mH | apply mT))); (case hlen => exact Hwl.out); clear H; (try clear W); intro gm2 vm W H) | ((with_reducible apply dfuse_c (-1) rfl Hz1.out); (case H => exact H); (case hm => (with_reducible repeat first | exact Pull.here)); clear H; (try clear W); intro W H) | ((with_reducible apply rfuse_c (-1) rfl Hz1.out); (case H => exact H); (case hm => (with_reducible repeat first | exact Pull.here | apply Pull.there)); clear H; (try clear W); intro W H) | (go_simp; first | ((with_reducible apply sameD_k); (case H => exact H); (case hm => (with_reducible repeat first | exact Pull.here | apply Pull.there)); (case hm2 => (with_reducible repeat first | exact Pull.here)); clear H; (try clear W); intro W H) | ((with_reducible apply leftT_k); (case H => exact H); (case hn => exact Hbn.out); (case hl => rfl); (case u => (with_reducible repeat first | exact Upd.here | apply Upd.there)); (case G2 => (refine Gb.out _ ?_; (with_reducible repeat first | exact mH | apply mT))); clear H; (try clear W); intro W H)))
                    clear Hsm Hnn Hwl Hwl5 Hsz Hwa
                    have ho := dkE_ok (g := g2) (v := v) (d := dz) H (by (with_reducible repeat first | exact mH | assumption | apply mT))
                    have Hd4 : Hid (dz.su.length ≤ 4096) := Lib.hid ho.n1
                    have Hdn : Hid (dz.no.length = dz.su.length) := Lib.hid ho.nn
                    have Hdl := Lib.hid ho.nl
                    have Hfm : Hid (fr + mn ≤ dz.su.length) := Lib.hid (by rw [HsZ.out.1]; exact Hfs.out)
                    have HwZ : Hid (dz.wa.length ≤ 500000) := Lib.hid (Nat.le_trans HwY.out (by omega))
                    clear ho
                    rcases openR_cases dz fr mn with ⟨d3, s3, hz3, f3, m3⟩ | ⟨d3, e3, hz3, he3⟩
                    · as_aux_lemma =>
                        have hz3s := openR_sized fr mn HsZ.out
                        have hz3w := openR_wa dz fr mn
                        rw [hz3] at hz3s hz3w
                        simp only at hz3s hz3w
                        have Hz3 := Lib.hid hz3
                        have Hs3 := Lib.hid hz3s
                        have hms : mn ≤ 200 := by have := Hfs.out; omega
                        have Hw3 : Hid (d3.wa.length ≤ 220 * (k + 1) + 200) := Lib.hid (by have := HwY.out; omega)
                        have Hf3 := Lib.hid f3
                        have Hm3 := Lib.hid m3
                        clear hz3 hz3s hz3w f3 m3
                        go_wp2_with (first | ((with_reducible apply wpl_load H); (case hs => exact sc _ rfl); (case hw | hx => rfl); (case hm => (with_reducible repeat first | exact mH | apply mT)); (case hv => rfl)) | ((with_reducible apply sopen_y fr mn rfl rfl Hfm.out Hmn.out HwZ.out Hz3.out); (case H => exact H); (case hm => (with_reducible repeat first | exact Pull.here | apply Pull.there)); clear H; (try clear W); intro p2 vs v W H) | ((with_reducible apply rsopen_y fr mn rfl rfl Hfm.out Hmn.out Hd4.out Hdn.out Hdl.out HwZ.out Hz3.out); (case H => exact H); (case hm => (with_reducible repeat first | exact Pull.here | apply Pull.there)); clear H; (try clear W); intro pm2 vsm vm W H) | ((with_reducible apply slen_v); (case H => exact H); (case hm => (with_reducible repeat first | exact Pull.here | apply Pull.there)); (case hn => rfl); clear H; (try clear W); intro W H) | ((with_reducible apply rslen_v); (case H => exact H); (case hm => (with_reducible repeat first | exact Pull.here | apply Pull.there)); (case hn => rfl); clear H; (try clear W); intro W H) | ((with_reducible apply bytes_k); (case H => exact H); (case hm => (with_reducible repeat first | exact Pull.here | apply Pull.there)); (case hm2 => (with_reducible repeat first | exact Pull.here | apply Pull.there)); (case hn => exact Hb5.out); (case hx => exact bvs_length _); (case hlen => exact Hhs.out); clear H; (try clear W); intro B2 cb2 W H) | (go_simp; first | ((with_reducible apply sameD_k); (case H => exact H); (case hm => (with_reducible repeat first | exact Pull.here | apply Pull.there)); (case hm2 => (with_reducible repeat first | exact Pull.here | apply Pull.there)); clear H; (try clear W); intro W H) | ((with_reducible apply sleft_v); (case H => exact H); (case hm => (with_reducible repeat first | exact Pull.here | apply Pull.there)); (case hn => rfl); clear H; (try clear W); intro W H) | ((with_reducible apply rsleft_v); (case H => exact H); (case hm => (with_reducible repeat first | exact Pull.here | apply Pull.there)); (case hn => rfl); clear H; (try clear W); intro W H)))
                        have hh := Hhs2.out
                        exact ⟨⟨k + 1, g2, gm2, p2, pm2, v, vm, vs, vsm, d3, s3, B2, cb2, hs ++ [⟨some ⟨tq, 0, none⟩, b.length, tc, bvs b, none, 0, 0⟩], by omega, rfl, rfl, rfl, rfl, congrArg (Value.int .i64) (by omega), Hs3.out, Hf3.out, Hm3.out, Hw3.out, by rw [List.length_append, List.length_singleton]; omega, Reord.use H (by ((repeat (with_reducible apply Reord.cons; (case p => (with_reducible repeat first | exact Pull.here | apply Pull.there)))); repeat (first | with_reducible exact Reord.rest | with_reducible apply Reord.drop)))⟩, by simp only [intOf]; omega⟩
                    · as_aux_lemma =>
                        have heb3 : (e3 == 0) = false := by rw [beq_eq_false_iff_ne]; exact he3
                        have Hz3 := Lib.hid hz3
                        clear hz3 he3
                        go_wp2_with (first | ((with_reducible apply wpl_load H); (case hs => exact sc _ rfl); (case hw | hx => rfl); (case hm => (with_reducible repeat first | exact mH | apply mT)); (case hv => rfl)) | ((with_reducible apply sopen_n fr mn rfl rfl Hfm.out Hmn.out HwZ.out Hz3.out); (case H => exact H); (case hm => (with_reducible repeat first | exact Pull.here | apply Pull.there)); clear H; (try clear W); intro v W H) | ((with_reducible apply rsopen_n fr mn rfl rfl Hfm.out Hmn.out Hd4.out Hdn.out Hdl.out HwZ.out Hz3.out); (case H => exact H); (case hm => (with_reducible repeat first | exact Pull.here | apply Pull.there)); clear H; (try clear W); intro vm W H) | (go_simp; first | ((with_reducible apply sameD_k); (case H => exact H); (case hm => (with_reducible repeat first | exact Pull.here | apply Pull.there)); (case hm2 => (with_reducible repeat first | exact Pull.here)); clear H; (try clear W); intro W H) | ((with_reducible apply apart_k); (case H => exact H); (case hm => (with_reducible repeat first | exact Pull.here | apply Pull.there)); clear H; (try clear W); intro W H)))
                        exact HR.out _ (Reord.use H (by ((repeat (with_reducible apply Reord.cons; (case p => (with_reducible repeat first | exact Pull.here | apply Pull.there)))); repeat (first | with_reducible exact Reord.rest | with_reducible apply Reord.drop))))
                · as_aux_lemma =>
                    have HKd := Lib.hid hK
                    obtain ⟨dz, e, hz⟩ : ∃ d' e, d.turnE N Mt Y = (d', e) := ⟨_, _, rfl⟩
                    have Hz := Lib.hid hz
                    have HsZ : Hid (dz.sized s) := Lib.hid (by have := turnE_sized N Mt Y Hsz.out; rw [hz] at this; exact this)
                    have HwY : Hid (dz.wa.length ≤ 220 * k + 210) := Lib.hid (by have := Hwa.out; have h2 := turnE_wa d N Mt Y; rw [hz] at h2; exact Nat.le_trans h2 (by omega))
                    clear hK hz
                    go_wp2_with (first | go_big_skip | ((with_reducible refine wpl_absorb H ?_); clear H; (first | ((fail_if_success (have _t := q2)); generalize W.heap.size = q2) ); (try clear W); intro W H) | ((with_reducible apply wpl_load H); (case hs => exact sc _ rfl); (case hw | hx => rfl); (case hm => (with_reducible repeat first | exact mH | apply mT)); (case hv => rfl)) | ((with_reducible apply wpl_store H); (case hw | hx | hy => rfl); (case hm => (with_reducible repeat first | exact Upd.here)); (case hs => exact sz_ag _ _ rfl); (case h1 => rfl); (case hk => exact Nat.le_of_ble_eq_true rfl); clear H; (try clear W); intro W H; first | simp only [setL, List.set_cons_zero, List.set_cons_succ] at H) | (rw [HKd.out]) | ((with_reducible apply wpl_loadR (vs := [.int .u8 ((K.toNat : Nat) : Int), .int .i64 N, .slice A2 b.length c2, .int .i64 Mt, .int .u8 ((Y.toNat : Nat) : Int), .slice A5 kept.length c5]) H); (case hs => exact ag _ _ rfl); (case hw | hx => rfl); (case hm => (refine h1.head _ ?_; (with_reducible repeat first | exact mH | apply mT))); (case hk | hn => omega); (case hv => exact Hcells.out)) | ((with_reducible apply tw_k (l := b)); (case H => exact H); (case hr => (refine Gb.out _ ?_; (with_reducible repeat first | exact mH | apply mT))); (case hn => exact Hbn.out); clear H; (try clear W); intro tq tc W H) | ((with_reducible apply dturn_c N Mt Y Hz.out); (case H => exact H); (case hm => (with_reducible repeat first | exact Pull.here | apply Pull.there)); clear H; (try clear W); intro v W H) | ((with_reducible apply rturn_c N Mt Y Hz.out); (case H => exact H); (case hm => (with_reducible repeat first | exact Pull.here | apply Pull.there)); clear H; (try clear W); intro vm W H) | (go_simp; first | ((with_reducible apply sameD_k); (case H => exact H); (case hm => (with_reducible repeat first | exact Pull.here | apply Pull.there)); (case hm2 => (with_reducible repeat first | exact Pull.here)); clear H; (try clear W); intro W H) | ((with_reducible apply leftT_k); (case H => exact H); (case hn => exact Hbn.out); (case hl => rfl); (case u => (with_reducible repeat first | exact Upd.here | apply Upd.there)); (case G2 => (refine Gb.out _ ?_; (with_reducible repeat first | exact mH | apply mT))); clear H; (try clear W); intro W H)))
                    obtain ⟨g2, hg2⟩ : ∃ x, x = g := ⟨_, rfl⟩
                    subst hg2
                    obtain ⟨gm2, hgm2⟩ : ∃ x, x = gm := ⟨_, rfl⟩
                    subst hgm2
                    clear Hsm Hnn Hwl Hwl5 Hsz Hwa
                    have ho := dkE_ok (g := g2) (v := v) (d := dz) H (by (with_reducible repeat first | exact mH | assumption | apply mT))
                    have Hd4 : Hid (dz.su.length ≤ 4096) := Lib.hid ho.n1
                    have Hdn : Hid (dz.no.length = dz.su.length) := Lib.hid ho.nn
                    have Hdl := Lib.hid ho.nl
                    have Hfm : Hid (fr + mn ≤ dz.su.length) := Lib.hid (by rw [HsZ.out.1]; exact Hfs.out)
                    have HwZ : Hid (dz.wa.length ≤ 500000) := Lib.hid (Nat.le_trans HwY.out (by omega))
                    clear ho
                    rcases openR_cases dz fr mn with ⟨d3, s3, hz3, f3, m3⟩ | ⟨d3, e3, hz3, he3⟩
                    · as_aux_lemma =>
                        have hz3s := openR_sized fr mn HsZ.out
                        have hz3w := openR_wa dz fr mn
                        rw [hz3] at hz3s hz3w
                        simp only at hz3s hz3w
                        have Hz3 := Lib.hid hz3
                        have Hs3 := Lib.hid hz3s
                        have hms : mn ≤ 200 := by have := Hfs.out; omega
                        have Hw3 : Hid (d3.wa.length ≤ 220 * (k + 1) + 200) := Lib.hid (by have := HwY.out; omega)
                        have Hf3 := Lib.hid f3
                        have Hm3 := Lib.hid m3
                        clear hz3 hz3s hz3w f3 m3
                        go_wp2_with (first | ((with_reducible apply wpl_load H); (case hs => exact sc _ rfl); (case hw | hx => rfl); (case hm => (with_reducible repeat first | exact mH | apply mT)); (case hv => rfl)) | ((with_reducible apply sopen_y fr mn rfl rfl Hfm.out Hmn.out HwZ.out Hz3.out); (case H => exact H); (case hm => (with_reducible repeat first | exact Pull.here | apply Pull.there)); clear H; (try clear W); intro p2 vs v W H) | ((with_reducible apply rsopen_y fr mn rfl rfl Hfm.out Hmn.out Hd4.out Hdn.out Hdl.out HwZ.out Hz3.out); (case H => exact H); (case hm => (with_reducible repeat first | exact Pull.here | apply Pull.there)); clear H; (try clear W); intro pm2 vsm vm W H) | ((with_reducible apply slen_v); (case H => exact H); (case hm => (with_reducible repeat first | exact Pull.here | apply Pull.there)); (case hn => rfl); clear H; (try clear W); intro W H) | ((with_reducible apply rslen_v); (case H => exact H); (case hm => (with_reducible repeat first | exact Pull.here | apply Pull.there)); (case hn => rfl); clear H; (try clear W); intro W H) | ((with_reducible apply bytes_k); (case H => exact H); (case hm => (with_reducible repeat first | exact Pull.here | apply Pull.there)); (case hm2 => (with_reducible repeat first | exact Pull.here | apply Pull.there)); (case hn => exact Hb5.out); (case hx => exact bvs_length _); (case hlen => exact Hhs.out); clear H; (try clear W); intro B2 cb2 W H) | (go_simp; first | ((with_reducible apply sameD_k); (case H => exact H); (case hm => (with_reducible repeat first | exact Pull.here | apply Pull.there)); (case hm2 => (with_reducible repeat first | exact Pull.here | apply Pull.there)); clear H; (try clear W); intro W H) | ((with_reducible apply sleft_v); (case H => exact H); (case hm => (with_reducible repeat first | exact Pull.here | apply Pull.there)); (case hn => rfl); clear H; (try clear W); intro W H) | ((with_reducible apply rsleft_v); (case H => exact H); (case hm => (with_reducible repeat first | exact Pull.here | apply Pull.there)); (case hn => rfl); clear H; (try clear W); intro W H)))
                        have hh := Hhs2.out
                        exact ⟨⟨k + 1, g2, gm2, p2, pm2, v, vm, vs, vsm, d3, s3, B2, cb2, hs ++ [⟨some ⟨tq, 0, none⟩, b.length, tc, bvs b, none, 0, 0⟩], by omega, rfl, rfl, rfl, rfl, congrArg (Value.int .i64) (by omega), Hs3.out, Hf3.out, Hm3.out, Hw3.out, by rw [List.length_append, List.length_singleton]; omega, Reord.use H (by ((repeat (with_reducible apply Reord.cons; (case p => (with_reducible repeat first | exact Pull.here | apply Pull.there)))); repeat (first | with_reducible exact Reord.rest | with_reducible apply Reord.drop)))⟩, by simp only [intOf]; omega⟩
                    · as_aux_lemma =>
                        have heb3 : (e3 == 0) = false := by rw [beq_eq_false_iff_ne]; exact he3
                        have Hz3 := Lib.hid hz3
                        clear hz3 he3
                        go_wp2_with (first | ((with_reducible apply wpl_load H); (case hs => exact sc _ rfl); (case hw | hx => rfl); (case hm => (with_reducible repeat first | exact mH | apply mT)); (case hv => rfl)) | ((with_reducible apply sopen_n fr mn rfl rfl Hfm.out Hmn.out HwZ.out Hz3.out); (case H => exact H); (case hm => (with_reducible repeat first | exact Pull.here | apply Pull.there)); clear H; (try clear W); intro v W H) | ((with_reducible apply rsopen_n fr mn rfl rfl Hfm.out Hmn.out Hd4.out Hdn.out Hdl.out HwZ.out Hz3.out); (case H => exact H); (case hm => (with_reducible repeat first | exact Pull.here | apply Pull.there)); clear H; (try clear W); intro vm W H) | (go_simp; first | ((with_reducible apply sameD_k); (case H => exact H); (case hm => (with_reducible repeat first | exact Pull.here | apply Pull.there)); (case hm2 => (with_reducible repeat first | exact Pull.here)); clear H; (try clear W); intro W H) | ((with_reducible apply apart_k); (case H => exact H); (case hm => (with_reducible repeat first | exact Pull.here | apply Pull.there)); clear H; (try clear W); intro W H)))
                        exact HR.out _ (Reord.use H (by ((repeat (with_reducible apply Reord.cons; (case p => (with_reducible repeat first | exact Pull.here | apply Pull.there)))); repeat (first | with_reducible exact Reord.rest | with_reducible apply Reord.drop))))
                · as_aux_lemma =>
                    have HKd := Lib.hid hK
                    obtain ⟨dz, e, hz⟩ : ∃ d' e, d.write N b = (d', e) := ⟨_, _, rfl⟩
                    have Hz := Lib.hid hz
                    have HsZ : Hid (dz.sized s) := Lib.hid (by have := write_sized N b Hsz.out; rw [hz] at this; exact this)
                    have HwY : Hid (dz.wa.length ≤ 220 * k + 210) := Lib.hid (by have := Hwa.out; have h2 := write_wa d N b; rw [hz] at h2; exact Nat.le_trans h2 (by omega))
                    clear hK hz
                    go_wp2_with (first | ((with_reducible refine wpl_absorb H ?_); clear H; (first | ((fail_if_success (have _t := q2)); generalize W.heap.size = q2) ); (try clear W); intro W H) | ((with_reducible apply wpl_load H); (case hs => exact sc _ rfl); (case hw | hx => rfl); (case hm => (with_reducible repeat first | exact mH | apply mT)); (case hv => rfl)) | ((with_reducible apply wpl_store H); (case hw | hx | hy => rfl); (case hm => (with_reducible repeat first | exact Upd.here)); (case hs => exact sz_ag _ _ rfl); (case h1 => rfl); (case hk => exact Nat.le_of_ble_eq_true rfl); clear H; (try clear W); intro W H; first | simp only [setL, List.set_cons_zero, List.set_cons_succ] at H) | (rw [HKd.out]) | ((with_reducible apply wpl_loadR (vs := [.int .u8 ((K.toNat : Nat) : Int), .int .i64 N, .slice A2 b.length c2, .int .i64 Mt, .int .u8 ((Y.toNat : Nat) : Int), .slice A5 kept.length c5]) H); (case hs => exact ag _ _ rfl); (case hw | hx => rfl); (case hm => (refine h1.head _ ?_; (with_reducible repeat first | exact mH | apply mT))); (case hk | hn => omega); (case hv => exact Hcells.out)) | ((with_reducible apply tw_k (l := b)); (case H => exact H); (case hr => (refine Gb.out _ ?_; (with_reducible repeat first | exact mH | apply mT))); (case hn => exact Hbn.out); clear H; (try clear W); intro tq tc W H) | ((with_reducible apply dwrite_c N b Hz.out Hwl.out); (case H => exact H); (case hm => (with_reducible repeat first | exact Pull.here | apply Pull.there)); (case hr => (apply gives_tw; (case h => (with_reducible repeat first | exact mH)); (case hl => rfl))); clear H; (try clear W); intro v W H) | ((with_reducible apply rwrite_c N b Hz.out Hwl.out); (case H => exact H); (case hm => (with_reducible repeat first | exact Pull.here | apply Pull.there)); (case hr => (refine Gb.out _ ?_; (with_reducible repeat first | exact mH | apply mT))); clear H; (try clear W); intro vm W H) | (go_simp; first | ((with_reducible apply sameD_k); (case H => exact H); (case hm => (with_reducible repeat first | exact Pull.here | apply Pull.there)); (case hm2 => (with_reducible repeat first | exact Pull.here)); clear H; (try clear W); intro W H) | ((with_reducible apply leftT_k); (case H => exact H); (case hn => exact Hbn.out); (case hl => rfl); (case u => (with_reducible repeat first | exact Upd.here | apply Upd.there)); (case G2 => (refine Gb.out _ ?_; (with_reducible repeat first | exact mH | apply mT))); clear H; (try clear W); intro W H)))
                    obtain ⟨g2, hg2⟩ : ∃ x, x = g := ⟨_, rfl⟩
                    subst hg2
                    obtain ⟨gm2, hgm2⟩ : ∃ x, x = gm := ⟨_, rfl⟩
                    subst hgm2
                    clear Hsm Hnn Hwl Hwl5 Hsz Hwa
                    have ho := dkE_ok (g := g2) (v := v) (d := dz) H (by (with_reducible repeat first | exact mH | assumption | apply mT))
                    have Hd4 : Hid (dz.su.length ≤ 4096) := Lib.hid ho.n1
                    have Hdn : Hid (dz.no.length = dz.su.length) := Lib.hid ho.nn
                    have Hdl := Lib.hid ho.nl
                    have Hfm : Hid (fr + mn ≤ dz.su.length) := Lib.hid (by rw [HsZ.out.1]; exact Hfs.out)
                    have HwZ : Hid (dz.wa.length ≤ 500000) := Lib.hid (Nat.le_trans HwY.out (by omega))
                    clear ho
                    rcases openR_cases dz fr mn with ⟨d3, s3, hz3, f3, m3⟩ | ⟨d3, e3, hz3, he3⟩
                    · as_aux_lemma =>
                        have hz3s := openR_sized fr mn HsZ.out
                        have hz3w := openR_wa dz fr mn
                        rw [hz3] at hz3s hz3w
                        simp only at hz3s hz3w
                        have Hz3 := Lib.hid hz3
                        have Hs3 := Lib.hid hz3s
                        have hms : mn ≤ 200 := by have := Hfs.out; omega
                        have Hw3 : Hid (d3.wa.length ≤ 220 * (k + 1) + 200) := Lib.hid (by have := HwY.out; omega)
                        have Hf3 := Lib.hid f3
                        have Hm3 := Lib.hid m3
                        clear hz3 hz3s hz3w f3 m3
                        go_wp2_with (first | ((with_reducible apply wpl_load H); (case hs => exact sc _ rfl); (case hw | hx => rfl); (case hm => (with_reducible repeat first | exact mH | apply mT)); (case hv => rfl)) | ((with_reducible apply sopen_y fr mn rfl rfl Hfm.out Hmn.out HwZ.out Hz3.out); (case H => exact H); (case hm => (with_reducible repeat first | exact Pull.here | apply Pull.there)); clear H; (try clear W); intro p2 vs v W H) | ((with_reducible apply rsopen_y fr mn rfl rfl Hfm.out Hmn.out Hd4.out Hdn.out Hdl.out HwZ.out Hz3.out); (case H => exact H); (case hm => (with_reducible repeat first | exact Pull.here | apply Pull.there)); clear H; (try clear W); intro pm2 vsm vm W H) | ((with_reducible apply slen_v); (case H => exact H); (case hm => (with_reducible repeat first | exact Pull.here | apply Pull.there)); (case hn => rfl); clear H; (try clear W); intro W H) | ((with_reducible apply rslen_v); (case H => exact H); (case hm => (with_reducible repeat first | exact Pull.here | apply Pull.there)); (case hn => rfl); clear H; (try clear W); intro W H) | ((with_reducible apply bytes_k); (case H => exact H); (case hm => (with_reducible repeat first | exact Pull.here | apply Pull.there)); (case hm2 => (with_reducible repeat first | exact Pull.here | apply Pull.there)); (case hn => exact Hb5.out); (case hx => exact bvs_length _); (case hlen => exact Hhs.out); clear H; (try clear W); intro B2 cb2 W H) | (go_simp; first | ((with_reducible apply sameD_k); (case H => exact H); (case hm => (with_reducible repeat first | exact Pull.here | apply Pull.there)); (case hm2 => (with_reducible repeat first | exact Pull.here | apply Pull.there)); clear H; (try clear W); intro W H) | ((with_reducible apply sleft_v); (case H => exact H); (case hm => (with_reducible repeat first | exact Pull.here | apply Pull.there)); (case hn => rfl); clear H; (try clear W); intro W H) | ((with_reducible apply rsleft_v); (case H => exact H); (case hm => (with_reducible repeat first | exact Pull.here | apply Pull.there)); (case hn => rfl); clear H; (try clear W); intro W H)))
                        have hh := Hhs2.out
                        exact ⟨⟨k + 1, g2, gm2, p2, pm2, v, vm, vs, vsm, d3, s3, B2, cb2, hs ++ [⟨some ⟨tq, 0, none⟩, b.length, tc, bvs b, none, 0, 0⟩], by omega, rfl, rfl, rfl, rfl, congrArg (Value.int .i64) (by omega), Hs3.out, Hf3.out, Hm3.out, Hw3.out, by rw [List.length_append, List.length_singleton]; omega, Reord.use H (by ((repeat (with_reducible apply Reord.cons; (case p => (with_reducible repeat first | exact Pull.here | apply Pull.there)))); repeat (first | with_reducible exact Reord.rest | with_reducible apply Reord.drop)))⟩, by simp only [intOf]; omega⟩
                    · as_aux_lemma =>
                        have heb3 : (e3 == 0) = false := by rw [beq_eq_false_iff_ne]; exact he3
                        have Hz3 := Lib.hid hz3
                        clear hz3 he3
                        go_wp2_with (first | ((with_reducible apply wpl_load H); (case hs => exact sc _ rfl); (case hw | hx => rfl); (case hm => (with_reducible repeat first | exact mH | apply mT)); (case hv => rfl)) | ((with_reducible apply sopen_n fr mn rfl rfl Hfm.out Hmn.out HwZ.out Hz3.out); (case H => exact H); (case hm => (with_reducible repeat first | exact Pull.here | apply Pull.there)); clear H; (try clear W); intro v W H) | ((with_reducible apply rsopen_n fr mn rfl rfl Hfm.out Hmn.out Hd4.out Hdn.out Hdl.out HwZ.out Hz3.out); (case H => exact H); (case hm => (with_reducible repeat first | exact Pull.here | apply Pull.there)); clear H; (try clear W); intro vm W H) | (go_simp; first | ((with_reducible apply sameD_k); (case H => exact H); (case hm => (with_reducible repeat first | exact Pull.here | apply Pull.there)); (case hm2 => (with_reducible repeat first | exact Pull.here)); clear H; (try clear W); intro W H) | ((with_reducible apply apart_k); (case H => exact H); (case hm => (with_reducible repeat first | exact Pull.here | apply Pull.there)); clear H; (try clear W); intro W H)))
                        exact HR.out _ (Reord.use H (by ((repeat (with_reducible apply Reord.cons; (case p => (with_reducible repeat first | exact Pull.here | apply Pull.there)))); repeat (first | with_reducible exact Reord.rest | with_reducible apply Reord.drop))))
            · as_aux_lemma =>
                obtain rfl : k = n := by omega
                have hki : ¬ (k : Int) < k := by omega
                have hso := stE_ok H (by (with_reducible repeat first | exact mH | assumption | apply mT))
                obtain ⟨l, hl⟩ : ∃ l, st.ls.length = l := ⟨_, rfl⟩
                have Hl := Lib.hid hl
                have hl2 : l ≤ 200 := by have h1 := hso.em; have h2 := hso.ll; have h3 := Hfs.out; omega
                have Hso : Hid (∀ i, (st.getB i).length ≤ 256) := Lib.hid (getB_len hso)
                clear hsz hsf hsmn hwa Hsz Hsf Hsn Hsm Hnn hso hl
                go_wp2_with (first | go_big_skip )
                go_loopw [16] (fun iv wr => ∃ (i : Int) (B : Option Addr) (cb : Nat) (hs : List Hd), -1 ≤ i ∧ i ≤ l + 1 ∧ iv = .int .i64 i ∧ (hs.length : Int) ≤ 51 + i ∧ Holds wr [dkE g v d, rdE gm vm d, stE p g vs st, rsE pm gm vsm st, bkE gk B cb hs, blk q1 [.int .i64 (s : Int), .int .i64 (fr : Int), .int .i64 (mn : Int)] 23, B0]) (fun iv _ => (l + 1 - intOf iv).toNat)
                case atStart => exact ⟨-1, B, cb, hs, by omega, by omega, rfl, by omega, H⟩
                case round =>
                  clear H W B cb hhs hs
                  obtain ⟨i, B, cb, hs, hi1, hi2, rfl, hhs, H⟩ := hrel
                  rename World => W
                  have Hhs : Hid (hs.length < 10000) := Lib.hid (by omega)
                  have Hhs2 := Lib.hid hhs
                  clear hhs
                  by_cases hlt : i ≤ l
                  · obtain ⟨z, hz0⟩ : ∃ z, st.getB i = z := ⟨_, rfl⟩
                    obtain ⟨e, he0⟩ : ∃ e, st.getE i = e := ⟨_, rfl⟩
                    have Hz := Lib.hid (And.intro hz0 he0)
                    have Hb5 : Hid (z.length ≤ 100000) := Lib.hid (by rw [← hz0]; exact Nat.le_trans (Hso.out i) (by omega))
                    clear hz0 he0
                    go_wp2_with (first | ((with_reducible apply rslen_v (l : Int)); (case H => exact H); (case hm => (with_reducible repeat first | exact Pull.here | apply Pull.there)); (case hn => (rw [Hl.out])); clear H; (try clear W); intro W H) | ((with_reducible apply sget_c i Hz.out); (case H => exact H); (case hm => (with_reducible repeat first | exact Pull.here | apply Pull.there)); clear H; (try clear W); intro ra rc W H) | ((with_reducible apply rsget_c i Hz.out); (case H => exact H); (case hm => (with_reducible repeat first | exact Pull.here | apply Pull.there)); clear H; (try clear W); intro ra2 rc2 W H) | (go_simp; (with_reducible apply sameR_k (l := z)); (case H => exact H); (case h1 => (apply gives_row; (with_reducible repeat first | exact mH | apply mT))); (case h2 => (apply gives_row; (with_reducible repeat first | exact mH))); clear H; (try clear W); intro W H) | ((with_reducible apply bytes_k); (case H => exact H); (case hm => (with_reducible repeat first | exact Pull.here | apply Pull.there)); (case hm2 => (with_reducible repeat first | exact Pull.here | apply Pull.there)); (case hn => exact Hb5.out); (case hx => exact bvs_length _); (case hlen => exact Hhs.out); clear H; (try clear W); intro B2 cb2 W H))
                    have hh := Hhs2.out
                    exact ⟨⟨i + 1, B2, cb2, hs ++ [⟨ra, z.length, rc, bvs z, none, 0, 0⟩], by omega, by omega, rfl, by rw [List.length_append, List.length_singleton]; omega, Reord.use H (by ((repeat (with_reducible apply Reord.cons; (case p => (with_reducible repeat first | exact Pull.here | apply Pull.there)))); repeat (first | with_reducible exact Reord.rest | with_reducible apply Reord.drop)))⟩, by simp only [intOf]; omega⟩
                  · go_wp2_with (first | ((with_reducible apply rslen_v (l : Int)); (case H => exact H); (case hm => (with_reducible repeat first | exact Pull.here | apply Pull.there)); (case hn => (rw [Hl.out])); clear H; (try clear W); intro W H) | (go_simp; (with_reducible apply apart_k); (case H => exact H); (case hm => (with_reducible repeat first | exact Pull.here | apply Pull.there)); clear H; (try clear W); intro W H))
                    exact HR.out _ (Reord.use H (by ((repeat (with_reducible apply Reord.cons; (case p => (with_reducible repeat first | exact Pull.here | apply Pull.there)))); repeat (first | with_reducible exact Reord.rest | with_reducible apply Reord.drop))))
end
end Go.Proofs.YtdnioigcgggdbaaGreatDoor
