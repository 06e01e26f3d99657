/-
  stores: great, same.
  A Book that has been told of slices, and does not own them yet: what it keeps is the slices' headers; they are handed over ahead of Apart.
-/
import Derived.Test.YtdnioigcgggdbaaGreatDoorMag
import Derived.Test.YtdnioigcgggdbaaGreatDoorMaq
import Derived.Test.YtdnioigcgggdbaaGreatDoorMas
set_option linter.unusedVariables false
set_option linter.unusedSimpArgs false
namespace Go.Proofs.YtdnioigcgggdbaaGreatDoor
open Go.RowKit
def gsumS (acts : List ActV) : Nat → Nat
  | 0 => 0
  | k + 1 => match acts[k]? with
    | some y => gsumS acts k + 10 + y.b.length / 30 + y.kept.length / 30
    | none => gsumS acts k
theorem gsumS_le {acts : List ActV} (h : ∀ y ∈ acts, y.b.length ≤ 1048576 ∧ y.kept.length ≤ 1048576) : ∀ k, gsumS acts k ≤ k * 80000
  | 0 => by rw [gsumS]; exact Nat.zero_le _
  | k + 1 => by
    have := gsumS_le h k
    rw [gsumS]
    split
    · rename_i y hy
      have h2 := h y (List.mem_of_getElem? hy)
      have e := Nat.succ_mul k 80000
      clear h hy
      omega
    · exact Nat.le_trans this (Nat.mul_le_mul_right _ (Nat.le_succ k))
theorem gsumS_mono (acts : List ActV) (k : Nat) : ∀ d, gsumS acts k ≤ gsumS acts (k + d)
  | 0 => Nat.le_refl _
  | d + 1 => by
    have := gsumS_mono acts k d
    rw [show k + (d + 1) = (k + d) + 1 from rfl, gsumS]
    split <;> omega
theorem gsumS_ten (acts : List ActV) : ∀ k, k ≤ acts.length → 10 * k ≤ gsumS acts k
  | 0, _ => Nat.zero_le _
  | k + 1, h => by
    have := gsumS_ten acts k (by omega)
    rw [gsumS, List.getElem?_eq_getElem (show k < acts.length by omega)]
    simp only
    omega
/-- what is not great is small. -/
theorem smallS_of {acts : List ActV} (h : gsumS acts acts.length ≤ 500) : acts.length ≤ 50 ∧ ∀ y ∈ acts, y.b.length ≤ 15000 := by
  refine ⟨by have := gsumS_ten acts acts.length (Nat.le_refl _); omega, fun y hy => ?_⟩
  obtain ⟨k, hk⟩ := List.mem_iff_getElem?.1 hy
  have hlt := (List.getElem?_eq_some_iff.1 hk).1
  have h1 := gsumS_mono acts (k + 1) (acts.length - (k + 1))
  rw [show k + 1 + (acts.length - (k + 1)) = acts.length from by omega, gsumS, hk] at h1
  simp only at h1
  omega
section
variable {W : World} {L L' L0 L1 : List Ent} {R : Ending → World → Prop} {B0 : Ent} {A : Option Addr} {n c : Nat} {cs : List Value} {acts : List ActV}
set_option maxRecDepth 100000 in
set_option maxHeartbeats 1000000 in
theorem greatS_k {gv : Bool} {S F M : Int} (h1 : RdA B0 A n c cs acts) (hz : decide (500 < gsumS acts n ∨ 200 < S) = gv) (H : Holds W L) (hb : B0 ∈ L) (k : ∀ w', Holds w' L → R (.returned (.bool gv)) w') : Calls Tryz.prog 4 #[.agg #[.int .i64 S, .int .i64 F, .int .i64 M], .slice A n c] W R := by
  subst hz
  have G1 := h1.head L hb
  have hn1 := h1.n1
  have hn2 := h1.len
  have HS : ∀ k, gsumS acts k ≤ k * 80000 := gsumS_le fun y hy => by
    obtain ⟨j, hj⟩ := List.mem_iff_getElem?.1 hy
    exact ⟨(h1.at_ j y hj).l2, (h1.at_ j y hj).l5⟩
  have Hat : ∀ j y, acts[j]? = some y → ActG B0 cs (j * 6) y := h1.at_
  have HK := Lib.hid k; clear k
  clear h1
  go_enter Tryz.func4, Tryz.ntmps4
  go_wp2_with (first | go_big_skip )
  replace H := H.alloc [.int .i64 S, .int .i64 F, .int .i64 M] 23
  generalize W.heap.size = q1 at H ⊢
  generalize W.alloc _ = W' at H ⊢
  replace G1 : Gives (blk q1 [.int .i64 S, .int .i64 F, .int .i64 M] 23 :: L) fun w => Rd w 6 A n c cs := G1.cons
  go_loopw [5, 6] (fun s i wr => ∃ k : Nat, k ≤ n ∧ i = .int .i64 k ∧ s = .int .i64 (gsumS acts k : Int) ∧ Holds wr (blk q1 [.int .i64 S, .int .i64 F, .int .i64 M] 23 :: L)) (fun _ i _ => n - (intOf i).toNat)
  case atStart => exact ⟨0, by omega, rfl, rfl, H⟩
  case round =>
    clear H
    obtain ⟨k, hk, rfl, rfl, H⟩ := hrel
    rename World => W
    by_cases hlt : k < n
    · have hki : (k : Int) < n := by omega
      obtain ⟨y, hy⟩ : ∃ y, acts[k]? = some y := ⟨_, List.getElem?_eq_getElem (by omega)⟩
      obtain ⟨A2, c2, e2, -⟩ := (Hat k y hy).k2
      obtain ⟨A5, c5, e5, -⟩ := (Hat k y hy).k5
      have hl2 := (Hat k y hy).l2
      have hl5 := (Hat k y hy).l5
      have hs := HS k
      have eg : gsumS acts (k + 1) = gsumS acts k + 10 + y.b.length / 30 + y.kept.length / 30 := by rw [gsumS, hy]
      have E2 := Lib.hid e2
      have E5 := Lib.hid e5
      have Eg := Lib.hid eg
      obtain ⟨a1, o1, rfl, -⟩ := (G1 W H).at_ (by omega)
      clear e2 e5 eg hy
      generalize gsumS acts k = S at *
      generalize y.b.length = mb at *
      generalize y.kept.length = mk at *
      have q1 : IntKind.i64.wrap (Int.tdiv (mb : Int) 30) = ((mb / 30 : Nat) : Int) := by rw [Int.tdiv_eq_ediv_of_nonneg (by omega), wrapI (by omega) (by omega)]; omega
      have q2 : IntKind.i64.wrap (Int.tdiv (mk : Int) 30) = ((mk / 30 : Nat) : Int) := by rw [Int.tdiv_eq_ediv_of_nonneg (by omega), wrapI (by omega) (by omega)]; omega
      obtain ⟨d1, hd1⟩ : ∃ d, d = mb / 30 := ⟨_, rfl⟩
      obtain ⟨d2, hd2⟩ : ∃ d, d = mk / 30 := ⟨_, rfl⟩
      rw [← hd1] at q1 Eg
      rw [← hd2] at q2 Eg
      have hb1 : d1 ≤ 40000 := by omega
      have hb2 : d2 ≤ 40000 := by omega
      have Q1 := Lib.hid q1
      have Q2 := Lib.hid q2
      clear hd1 hd2 q1 q2
      go_wp2_with (first | go_big_skip )
      ((refine wp_region_J [] H (by kernel_rfl) ?_); clear H; (try clear W); intro W H; (apply anyJ_takeP 0 (oi := Oper.mk _ _ _ _ _ _) rfl); (case hs | hf => kernel_rfl); (case hr | hF => kernel_rfl); (case hQ => exact fun _ _ _ h => h); (case H => first | exact .inr H ); (case hy => first | (apply yields_pure rfl; intro w; first | (go_simp; with_reducible rfl) )); (try simp only [Act.put, sA, sB, sC]); (apply anyJ_takeP 1 (oi := Oper.mk _ _ _ _ _ _) rfl); (case hs | hf => kernel_rfl); (case hr | hF => kernel_rfl); (case hQ => exact fun _ _ _ h => h); (case H => first | exact .inr H ); (case hy => first | (apply yields_pure rfl; intro w; first | (go_simp; with_reducible rfl) )); (try simp only [Act.put, sA, sB, sC]); (apply anyJ_takeP 2 (oi := Oper.mk _ _ _ _ _ _) rfl); (case hs | hf => kernel_rfl); (case hr | hF => kernel_rfl); (case hQ => exact fun _ _ _ h => h); (case H => first | exact .inr H ); (case hy => first | (apply yields_pure rfl; intro w; first | (go_simp; with_reducible rfl) )); (try simp only [Act.put, sA, sB, sC]); (apply anyJ_takeP 3 (oi := Oper.mk _ _ _ _ _ _) rfl); (case hs | hf => kernel_rfl); (case hr | hF => kernel_rfl); (case hQ => exact fun _ _ _ h => h); (case H => first | exact .inr H ); (case hy => first | (apply yields_pure rfl; intro w; first | (go_simp; with_reducible rfl) )); (try simp only [Act.put, sA, sB, sC]); (apply anyJ_takeP 4 (oi := Oper.mk _ _ _ _ _ _) rfl); (case hs | hf => kernel_rfl); (case hr | hF => kernel_rfl); (case hQ => exact fun _ _ _ h => h); (case H => first | exact .inr H ); (case hy => first | (apply yields_pure rfl; intro w; first | (go_simp; with_reducible rfl) )); (try simp only [Act.put, sA, sB, sC]); (apply anyJ_takeP 5 (oi := Oper.mk _ _ _ _ _ _) rfl); (case hs | hf => kernel_rfl); (case hr | hF => kernel_rfl); (case hQ => exact fun _ _ _ h => h); (case H => first | exact .inr H ); (case hy => first | (apply yields_pure rfl; intro w; first | (go_simp; with_reducible rfl) )); (try simp only [Act.put, sA, sB, sC]); (apply anyJ_takeP 10 (oi := Oper.mk _ _ _ _ _ _) rfl); (case hs | hf => kernel_rfl); (case hr | hF => kernel_rfl); (case hQ => exact fun _ _ _ h => h); (case H => first | exact .inr H ); (case hy => first | (apply yields_pure rfl; intro w; first | (go_simp; with_reducible rfl) )); (try simp only [Act.put, sA, sB, sC]); (apply anyJ_takeP 11 (oi := Oper.mk _ _ _ _ _ _) rfl); (case hs | hf => kernel_rfl); (case hr | hF => kernel_rfl); (case hQ => exact fun _ _ _ h => h); (case H => first | exact .inr H ); (case hy => first | (apply yields_pure rfl; intro w; first | (go_simp; with_reducible rfl) )); (try simp only [Act.put, sA, sB, sC]); (apply anyJ_takeP 12 (oi := Oper.mk _ _ _ _ _ _) rfl); (case hs | hf => kernel_rfl); (case hr | hF => kernel_rfl); (case hQ => exact fun _ _ _ h => h); (case H => first | exact .inr H ); (case hy => first | (apply yields_pure rfl; intro w; first | (go_simp; with_reducible rfl) )); (try simp only [Act.put, sA, sB, sC]); (apply anyJ_takeP 13 (oi := Oper.mk _ _ _ _ _ _) rfl); (case hs | hf => kernel_rfl); (case hr | hF => kernel_rfl); (case hQ => exact fun _ _ _ h => h); (case H => first | exact .inr H ); (case hy => first | (apply yields_pure rfl; intro w; first | (go_simp; with_reducible rfl) )); (try simp only [Act.put, sA, sB, sC]); (apply anyJ_take 6 (oi := Oper.mk _ _ _ _ _ _) rfl); (case hs | hf => kernel_rfl); (case hr | hc | hF => kernel_rfl); (case hQ => exact fun _ _ _ h => h); (case H => first | exact H ); (case hy => (first | (first | ((apply yields_loadVs (b := a1) (o := o1) (j := k * 6 + 2) (v := .slice A2 mb c2)); (case hs => exact sc _ rfl); (case hx | hw => rfl); (case hm => exact G1); (case hj => omega); (case hv => exact E2.out)) ) )); (try simp only [Act.put, sA, sB, sC]); (apply anyJ_takeP 7 (oi := Oper.mk _ _ _ _ _ _) rfl); (case hs | hf => kernel_rfl); (case hr | hF => kernel_rfl); (case hQ => exact fun _ _ _ h => h); (case H => first | exact .inr H ); (case hy => first | (apply yields_pure rfl; intro w; first | (go_simp; with_reducible rfl) )); (try simp only [Act.put, sA, sB, sC]); (apply anyJ_takeP 8 (oi := Oper.mk _ _ _ _ _ _) rfl); (case hs | hf => kernel_rfl); (case hr | hF => kernel_rfl); (case hQ => exact fun _ _ _ h => h); (case H => first | exact .inr H ); (case hy => first | (first | ((apply yields_rem_quo (r := (d1 : Int))); (case hw | hx | hy => rfl); (case hz => decide); (case hr => exact Q1.out)) ) ); (try simp only [Act.put, sA, sB, sC]); (apply anyJ_takeP 9 (oi := Oper.mk _ _ _ _ _ _) rfl); (case hs | hf => kernel_rfl); (case hr | hF => kernel_rfl); (case hQ => exact fun _ _ _ h => h); (case H => first | exact .inr H ); (case hy => first | (apply yields_pure rfl; intro w; first | (go_simp; with_reducible rfl) )); (try simp only [Act.put, sA, sB, sC]); (apply anyJ_take 14 (oi := Oper.mk _ _ _ _ _ _) rfl); (case hs | hf => kernel_rfl); (case hr | hc | hF => kernel_rfl); (case hQ => exact fun _ _ _ h => h); (case H => first | exact H ); (case hy => (first | (first | ((apply yields_loadVs (b := a1) (o := o1) (j := k * 6 + 5) (v := .slice A5 mk c5)); (case hs => exact sc _ rfl); (case hx | hw => rfl); (case hm => exact G1); (case hj => omega); (case hv => exact E5.out))) )); (try simp only [Act.put, sA, sB, sC]); (apply anyJ_takeP 15 (oi := Oper.mk _ _ _ _ _ _) rfl); (case hs | hf => kernel_rfl); (case hr | hF => kernel_rfl); (case hQ => exact fun _ _ _ h => h); (case H => first | exact .inr H ); (case hy => first | (apply yields_pure rfl; intro w; first | (go_simp; with_reducible rfl) )); (try simp only [Act.put, sA, sB, sC]); (apply anyJ_takeP 16 (oi := Oper.mk _ _ _ _ _ _) rfl); (case hs | hf => kernel_rfl); (case hr | hF => kernel_rfl); (case hQ => exact fun _ _ _ h => h); (case H => first | exact .inr H ); (case hy => first | (first | ((apply yields_rem_quo (r := (d2 : Int))); (case hw | hx | hy => rfl); (case hz => decide); (case hr => exact Q2.out))) ); (try simp only [Act.put, sA, sB, sC]); (apply anyJ_takeP 17 (oi := Oper.mk _ _ _ _ _ _) rfl); (case hs | hf => kernel_rfl); (case hr | hF => kernel_rfl); (case hQ => exact fun _ _ _ h => h); (case H => first | exact .inr H ); (case hy => first | (apply yields_pure rfl; intro w; first | (go_simp; with_reducible rfl) )); (try simp only [Act.put, sA, sB, sC]); (apply anyJ_takeP 18 (oi := Oper.mk _ _ _ _ _ _) rfl); (case hs | hf => kernel_rfl); (case hr | hF => kernel_rfl); (case hQ => exact fun _ _ _ h => h); (case H => first | exact .inr H ); (case hy => first | (apply yields_pure rfl; intro w; first | (go_simp; with_reducible rfl) )); (try simp only [Act.put, sA, sB, sC]); (apply anyJ_done (by kernel_rfl)))
      have e : IntKind.i64.wrap (IntKind.i64.wrap (IntKind.i64.wrap ((S : Int) + 10) + (d1 : Int)) + (d2 : Int)) = ((gsumS acts (k + 1) : Nat) : Int) := by
        rw [wrapI (x := (S : Int) + 10) (by omega) (by omega), wrapI (x := (S : Int) + 10 + d1) (by omega) (by omega), wrapI (by omega) (by omega), Eg.out]
        omega
      rw [e]
      clear e
      go_wp2_with (first | go_big_skip )
      exact ⟨⟨k + 1, by omega, congrArg (Value.int .i64) (by omega), rfl, H⟩, by simp only [intOf]; omega⟩
    · obtain rfl : k = n := by omega
      have hki : ¬ (k : Int) < k := by omega
      generalize gsumS acts k = T at *
      by_cases c1 : 500 < T
      · have c1i : (500 : Int) < T := by omega
        have hv : decide (500 < T ∨ 200 < S) = true := decide_eq_true (.inl c1)
        rw [hv] at HK
        clear hv
        go_wp2_with (first | go_big_skip )
        exact HK.out _ (Reord.use H (by ((repeat (with_reducible apply Reord.cons; (case p => (with_reducible repeat first | exact Pull.here)))); repeat (first | with_reducible exact Reord.rest | with_reducible apply Reord.drop))))
      · have c1i : ¬ (500 : Int) < T := by omega
        by_cases c2 : 200 < S
        · have hv : decide (500 < T ∨ 200 < S) = true := decide_eq_true (.inr c2)
          rw [hv] at HK
          clear hv
          go_wp2_with (first | ((with_reducible apply wpl_load H); (case hs => exact sc _ rfl); (case hw | hx => rfl); (case hm => (with_reducible repeat first | exact mH)); (case hv => rfl)) )
          exact HK.out _ (Reord.use H (by ((repeat (with_reducible apply Reord.cons; (case p => (with_reducible repeat first | exact Pull.here)))); repeat (first | with_reducible exact Reord.rest | with_reducible apply Reord.drop))))
        · have hv : decide (500 < T ∨ 200 < S) = false := decide_eq_false (by rintro (h | h); exact c1 h; exact c2 h)
          rw [hv] at HK
          clear hv
          go_wp2_with (first | ((with_reducible apply wpl_load H); (case hs => exact sc _ rfl); (case hw | hx => rfl); (case hm => (with_reducible repeat first | exact mH)); (case hv => rfl)) )
          exact HK.out _ (Reord.use H (by ((repeat (with_reducible apply Reord.cons; (case p => (with_reducible repeat first | exact Pull.here)))); repeat (first | with_reducible exact Reord.rest | with_reducible apply Reord.drop))))
end
section
variable {W : World} {L L' L0 L1 : List Ent} {R : Ending → World → Prop} {g gm : Nat} {v : Dv} {vm : Rv} {d : Dd}
set_option maxRecDepth 100000 in
set_option maxHeartbeats 1000000 in
/-- the program's disk and the reference's, over the same data, are the same. -/
theorem sameD_k (H : Holds W L) (hm : Pull (dkE g v d) L L1) (hm2 : Pull (rdE gm vm d) L1 L0) (k : ∀ w', Holds w' (dkE g v d :: rdE gm vm d :: L0) → R (.returned (.bool true)) w') :
    Calls Tryz.prog 22 #[.pointer (some ⟨g, 0, none⟩), .pointer (some ⟨gm, 0, none⟩)] W R := by
  have H2 := (H.pull hm).perm (hm2.perm.cons _)
  clear H hm hm2
  have H := H2
  clear H2
  have ho := dkE_ok H (by (with_reducible repeat first | exact mH | assumption | apply mT))
  have h4 := ho.n1
  have H64 := Lib.hid ho.nl
  have Hnl : Hid (d.no.length = d.su.length) := Lib.hid ho.nn
  clear ho
  have HK := Lib.hid k; clear k
  go_enter Tryz.func22, Tryz.ntmps22
  go_wp2_with (first | go_big_skip )
  go_loopw [5] (fun i wr => ∃ j : Nat, j ≤ d.su.length ∧ i = .int .i64 j ∧ Holds wr (dkE g v d :: rdE gm vm d :: L0)) (fun i _ => d.su.length - (intOf i).toNat)
  case atStart => exact ⟨0, by omega, rfl, H⟩
  case round =>
    clear H
    obtain ⟨j, hj, rfl, H⟩ := hrel
    rename World => W
    by_cases hlt : j < d.su.length
    · have hji : (j : Int) < d.su.length := by omega
      obtain ⟨z, hz0⟩ : ∃ z, d.readB (j : Int) = z := ⟨_, rfl⟩
      obtain ⟨e, he0⟩ : ∃ e, d.readE (j : Int) = e := ⟨_, rfl⟩
      have Hz := Lib.hid (And.intro hz0 he0)
      clear hz0 he0
      go_wp2_with (first | ((with_reducible apply rlen_k H); (case hm => (with_reducible repeat first | exact Pull.here | apply Pull.there)); clear H; (try clear W); intro W H) | ((with_reducible apply dread_c (j : Int) Hz.out); (case H => exact H); (case hm => (with_reducible repeat first | exact Pull.here | apply Pull.there)); clear H; (try clear W); intro ra rc W H) | ((with_reducible apply rread_c (j : Int) Hz.out H64.out Hnl.out); (case H => exact H); (case hm => (with_reducible repeat first | exact Pull.here | apply Pull.there)); clear H; (try clear W); intro ra2 rc2 W H) | (go_simp; (with_reducible apply sameR_k (l := z)); (case H => exact H); (case h1 => (apply gives_row; (with_reducible repeat first | exact mH | apply mT))); (case h2 => (apply gives_row; (with_reducible repeat first | exact mH))); clear H; (try clear W); intro W H))
      exact ⟨⟨j + 1, by omega, congrArg (Value.int .i64) (by omega), Reord.use H (by ((repeat (with_reducible apply Reord.cons; (case p => (with_reducible repeat first | exact Pull.here | apply Pull.there)))); repeat (first | with_reducible exact Reord.rest | with_reducible apply Reord.drop)))⟩, by simp only [intOf]; omega⟩
    · obtain rfl : j = d.su.length := by omega
      have hji : ¬ (d.su.length : Int) < d.su.length := by omega
      go_wp2_with (first | ((with_reducible apply rlen_k H); (case hm => (with_reducible repeat first | exact Pull.here | apply Pull.there)); clear H; (try clear W); intro W H) | ((with_reducible apply len_k H); (case hm => (with_reducible repeat first | exact Pull.here | apply Pull.there)); clear H; (try clear W); intro W H) | ((with_reducible apply waits_k H); (case hm => (with_reducible repeat first | exact Pull.here | apply Pull.there)); clear H; (try clear W); intro W H) | ((with_reducible apply rwaits_k H); (case hm => (with_reducible repeat first | exact Pull.here | apply Pull.there)); clear H; (try clear W); intro W H) | ((with_reducible apply blown_k H); (case hm => (with_reducible repeat first | exact Pull.here | apply Pull.there)); clear H; (try clear W); intro W H) | ((with_reducible apply rblown_k H); (case hm => (with_reducible repeat first | exact Pull.here | apply Pull.there)); clear H; (try clear W); intro W H))
      exact HK.out _ (Reord.use H (by ((repeat (with_reducible apply Reord.cons; (case p => (with_reducible repeat first | exact Pull.here | apply Pull.there)))); repeat (with_reducible exact Reord.rest))))
end
end Go.Proofs.YtdnioigcgggdbaaGreatDoor
set_option linter.unusedVariables false
set_option linter.unusedSimpArgs false
namespace Go.Proofs.YtdnioigcgggdbaaGreatDoor
open Go.RowKit

section
variable {W : World} {L L' L0 L1 : List Ent} {R : Ending → World → Prop} {g : Nat}
end
end Go.Proofs.YtdnioigcgggdbaaGreatDoor
