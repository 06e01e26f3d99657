/-
  A slice of slices of bytes, read; SameByteLists over entries.
-/
import Derived.Test.YtdnioigcgggdbaaSameM
import Derived.Test.YtdnioigcgggdbaaDraw
import Derived.Test.YtdnioigcgggdbaaRow
import Derived.Test.YtdnioigcgggdbaaSz
set_option linter.unusedVariables false
set_option linter.unusedSimpArgs false
namespace Go.Proofs.Ytdnioigcgggdbaa
open Go.RowKit

/-- a slice of slices of bytes reads as a list of lists. -/
structure RdL (L : List Ent) (A : Option Addr) (n c : Nat) (hs : List Value) (ls : List (List UInt8)) : Prop where
  head : Gives L fun w => Rd w 1 A n c hs
  len : ls.length = n
  at_ : ∀ (j : Nat) (l : List UInt8), ls[j]? = some l → ∃ (B : Option Addr) (m k : Nat), hs[j]? = some (Value.slice B m k) ∧ Gives L fun w => Rd w 1 B m k (bvs l)
section
variable {P : Program} {ops : Array Oper} {a : Act} {w : World} {L : List Ent} {dst : Option Tmp} {T : TypeId} {x : Operand} {ty : TypeId} {pos : String} {after : Array Edge} {gd : Option (Nat × Bool)}
theorem yields_loadV (hw : Region.wanted ⟨dst, .load T x, ty, pos, after, gd⟩ (yielded ops a.tmps) = true) {b o j : Nat} (hx : a.eval x = .pointer (some ⟨b, o + j, none⟩)) {n cap : Nat} {vs : List Value}
    (hm : Gives L fun w => Rd w 1 (some ⟨b, o, none⟩) n cap vs) (hs : Scalar P T) (hj : j < n) {v : Value} (hv : vs[j]? = some v) : YieldsIf P ops (fun w => Holds w L) ⟨dst, .load T x, ty, pos, after, gd⟩ v a := .inl ⟨hw, fun w H => by
  have hR := hm w H
  obtain ⟨b', o', e, hc⟩ := hR.at_ (by omega)
  injection e with e
  injection e with e1 e2
  subst e1 e2
  have hc2 := hc j (by omega)
  rw [hv] at hc2
  unfold execOp
  simp [hx, Instr.loadAt, Instr.sureAddr, loadVar, run_isAgg_no hs, Sem.run_bind, hc2, load, Sem.run]⟩
end
section
variable {W : World} {L L' L0 : List Ent} {R : Ending → World → Prop}
set_option maxRecDepth 100000 in
set_option maxHeartbeats 2000000 in
theorem sameL_k {A1 A2 : Option Addr} {n1 c1 n2 c2 : Nat} {hs1 hs2 : List Value} {l1 l2 : List (List UInt8)} (h1 : RdL L A1 n1 c1 hs1 l1) (h2 : RdL L A2 n2 c2 hs2 l2) (H : Holds W L) (k : ∀ w', Holds w' L → R (.returned (.bool (decide (l1 = l2)))) w') :
    Calls Try.prog 23 #[.slice A1 n1 c1, .slice A2 n2 c2] W R := by
  have HK := Lib.hid k; clear k
  by_cases hn : n1 = n2
  · subst hn
    have hle := (h1.head W H).le
    have htop := (h1.head W H).top
    unfold maxLen at htop
    go_enter Try.func23, Try.ntmps23
    go_wp2_with (first | go_big_skip | ((with_reducible refine wpl_absorb H ?_); clear H; (first  | generalize W.heap.size = q0); (try clear W); intro W H) | ((with_reducible refine wpl_drew H ?_); clear H; (try clear W); intro W H) | ((with_reducible refine wpl_drewN H ?_); clear H; (try clear W); intro W H) | ((with_reducible apply wpl_load H); (case hs => exact sc _ rfl); (case hw => rfl); (case hx => rfl); (case hm => (repeat (first | with_reducible exact mH | with_reducible assumption | with_reducible apply mT))); (case hv => rfl)))
    go_loopw [5] (fun i wr => ∃ k : Nat, k ≤ n1 ∧ i = .int .i64 k ∧ l1.take k = l2.take k ∧ Holds wr L) (fun i _ => n1 - (intOf i).toNat)
    case atStart => exact ⟨0, by omega, rfl, rfl, H⟩
    case round =>
      clear H
      obtain ⟨k, hk, rfl, he, H⟩ := hrel
      rename World => W
      by_cases hlt : k < n1
      · have hki : (k : Int) < n1 := by omega
        have hl1 := h1.len
        have hl2 := h2.len
        obtain ⟨x, hx⟩ : ∃ x, l1[k]? = some x := ⟨_, List.getElem?_eq_getElem (by omega)⟩
        obtain ⟨y, hy⟩ : ∃ y, l2[k]? = some y := ⟨_, List.getElem?_eq_getElem (by omega)⟩
        obtain ⟨B1, m1, d1, hh1, g1⟩ := h1.at_ k x hx
        obtain ⟨B2, m2, d2, hh2, g2⟩ := h2.at_ k y hy
        obtain ⟨a1, o1, rfl, -⟩ := (h1.head W H).at_ (by omega)
        obtain ⟨a2, o2, rfl, -⟩ := (h2.head W H).at_ (by omega)
        have G1 := h1.head
        have G2 := h2.head
        have Hx := Lib.hid hx
        have Hy := Lib.hid hy
        have Hh1 := Lib.hid hh1
        have Hh2 := Lib.hid hh2
        have He := Lib.hid he
        clear hx hy hh1 hh2 he hl1 hl2
        go_wp2_with (first | go_big_skip | ((with_reducible refine wpl_absorb H ?_); clear H; (first  | generalize W.heap.size = q0); (try clear W); intro W H) | ((with_reducible refine wpl_drew H ?_); clear H; (try clear W); intro W H) | ((with_reducible refine wpl_drewN H ?_); clear H; (try clear W); intro W H) | ((with_reducible apply wpl_load H); (case hs => exact sc _ rfl); (case hw => rfl); (case hx => rfl); (case hm => (repeat (first | with_reducible exact mH | with_reducible assumption | with_reducible apply mT))); (case hv => rfl)))
        ((refine wp_region_J [] H (by kernel_rfl) ?_); clear H; (try clear W); intro W H; (apply anyJ_takeP 0 (oi := Oper.mk _ _ _ _ _ _) rfl); (case hs => kernel_rfl); (case hf => kernel_rfl); (case hr => kernel_rfl); (case hF => kernel_rfl); (case hQ => exact fun _ _ _ h => h); (case H => first | exact .inr H | exact .inl rfl | exact .inr (Reord.use H (by ((repeat (with_reducible apply Reord.cons; (case p => (repeat (first | with_reducible exact Pull.here | with_reducible apply Pull.there))))); repeat (first | with_reducible exact Reord.rest | with_reducible apply Reord.drop))))); (case hy => first | exact yields_skip rfl | (apply yields_pure rfl; intro w; first | (go_simp; done) | (go_simp; with_reducible rfl) | rfl)); (try simp only [Act.put, List.setIfInBounds_toArray, List.set_cons_zero, List.set_cons_succ]); (apply anyJ_takeP 1 (oi := Oper.mk _ _ _ _ _ _) rfl); (case hs => kernel_rfl); (case hf => kernel_rfl); (case hr => kernel_rfl); (case hF => kernel_rfl); (case hQ => exact fun _ _ _ h => h); (case H => first | exact .inr H | exact .inl rfl | exact .inr (Reord.use H (by ((repeat (with_reducible apply Reord.cons; (case p => (repeat (first | with_reducible exact Pull.here | with_reducible apply Pull.there))))); repeat (first | with_reducible exact Reord.rest | with_reducible apply Reord.drop))))); (case hy => first | exact yields_skip rfl | (apply yields_pure rfl; intro w; first | (go_simp; done) | (go_simp; with_reducible rfl) | rfl)); (try simp only [Act.put, List.setIfInBounds_toArray, List.set_cons_zero, List.set_cons_succ]); (apply anyJ_takeP 2 (oi := Oper.mk _ _ _ _ _ _) rfl); (case hs => kernel_rfl); (case hf => kernel_rfl); (case hr => kernel_rfl); (case hF => kernel_rfl); (case hQ => exact fun _ _ _ h => h); (case H => first | exact .inr H | exact .inl rfl | exact .inr (Reord.use H (by ((repeat (with_reducible apply Reord.cons; (case p => (repeat (first | with_reducible exact Pull.here | with_reducible apply Pull.there))))); repeat (first | with_reducible exact Reord.rest | with_reducible apply Reord.drop))))); (case hy => first | exact yields_skip rfl | (apply yields_pure rfl; intro w; first | (go_simp; done) | (go_simp; with_reducible rfl) | rfl)); (try simp only [Act.put, List.setIfInBounds_toArray, List.set_cons_zero, List.set_cons_succ]); (apply anyJ_takeP 4 (oi := Oper.mk _ _ _ _ _ _) rfl); (case hs => kernel_rfl); (case hf => kernel_rfl); (case hr => kernel_rfl); (case hF => kernel_rfl); (case hQ => exact fun _ _ _ h => h); (case H => first | exact .inr H | exact .inl rfl | exact .inr (Reord.use H (by ((repeat (with_reducible apply Reord.cons; (case p => (repeat (first | with_reducible exact Pull.here | with_reducible apply Pull.there))))); repeat (first | with_reducible exact Reord.rest | with_reducible apply Reord.drop))))); (case hy => first | exact yields_skip rfl | (apply yields_pure rfl; intro w; first | (go_simp; done) | (go_simp; with_reducible rfl) | rfl)); (try simp only [Act.put, List.setIfInBounds_toArray, List.set_cons_zero, List.set_cons_succ]); (apply anyJ_takeP 5 (oi := Oper.mk _ _ _ _ _ _) rfl); (case hs => kernel_rfl); (case hf => kernel_rfl); (case hr => kernel_rfl); (case hF => kernel_rfl); (case hQ => exact fun _ _ _ h => h); (case H => first | exact .inr H | exact .inl rfl | exact .inr (Reord.use H (by ((repeat (with_reducible apply Reord.cons; (case p => (repeat (first | with_reducible exact Pull.here | with_reducible apply Pull.there))))); repeat (first | with_reducible exact Reord.rest | with_reducible apply Reord.drop))))); (case hy => first | exact yields_skip rfl | (apply yields_pure rfl; intro w; first | (go_simp; done) | (go_simp; with_reducible rfl) | rfl)); (try simp only [Act.put, List.setIfInBounds_toArray, List.set_cons_zero, List.set_cons_succ]); (apply anyJ_takeP 6 (oi := Oper.mk _ _ _ _ _ _) rfl); (case hs => kernel_rfl); (case hf => kernel_rfl); (case hr => kernel_rfl); (case hF => kernel_rfl); (case hQ => exact fun _ _ _ h => h); (case H => first | exact .inr H | exact .inl rfl | exact .inr (Reord.use H (by ((repeat (with_reducible apply Reord.cons; (case p => (repeat (first | with_reducible exact Pull.here | with_reducible apply Pull.there))))); repeat (first | with_reducible exact Reord.rest | with_reducible apply Reord.drop))))); (case hy => first | exact yields_skip rfl | (apply yields_pure rfl; intro w; first | (go_simp; done) | (go_simp; with_reducible rfl) | rfl)); (try simp only [Act.put, List.setIfInBounds_toArray, List.set_cons_zero, List.set_cons_succ]); (apply anyJ_take 3 (oi := Oper.mk _ _ _ _ _ _) rfl); (case hs => kernel_rfl); (case hf => kernel_rfl); (case hr => kernel_rfl); (case hc => kernel_rfl); (case hF => kernel_rfl); (case hQ => exact fun _ _ _ h => h); (case H => first | exact H | exact Reord.use H (by ((repeat (with_reducible apply Reord.cons; (case p => (repeat (first | with_reducible exact Pull.here | with_reducible apply Pull.there))))); repeat (first | with_reducible exact Reord.rest | with_reducible apply Reord.drop)))); (case hy => (first | (first | ((apply yields_loadV (v := .slice B1 m1 d1)); (case hs => exact sc _ rfl); (case hx => rfl); (case hw => rfl); (case hm => exact G1); (case hj => assumption); (case hv => exact Hh1.out)) | ((apply yields_loadV (v := .slice B2 m2 d2)); (case hs => exact sc _ rfl); (case hx => rfl); (case hw => rfl); (case hm => exact G2); (case hj => assumption); (case hv => exact Hh2.out))) | ((apply yields_load); (case hs => exact sc _ rfl); (case hw => rfl); (case hx => rfl); (case hm => (repeat (first | with_reducible exact mH | with_reducible assumption | with_reducible apply mT))); (case hv => rfl)) | ((apply yields_loadA); (case hs => exact ag _ _ rfl); (case hw => rfl); (case hx => rfl); (case hm => (repeat (first | with_reducible exact mH | with_reducible assumption | with_reducible apply mT))); (case hv => rfl); (case hl => first | rfl | assumption)) | ((apply yields_loadB0); (case hs => exact sc _ rfl); (case hw => rfl); (case hx => rfl); (case hm => (first | assumption | (apply gives_own; (case h => (repeat (first | with_reducible exact mH | with_reducible assumption | with_reducible apply mT))); (case hn => rfl)) | (apply gives_blk; (case h => (repeat (first | with_reducible exact mH | with_reducible assumption | with_reducible apply mT))); (case hn => rfl); (case hl => omega)) | (repeat (first | assumption | with_reducible apply Gives.cons)))); (case hj => first | assumption | omega)) | ((apply yields_loadB); (case hs => exact sc _ rfl); (case hw => rfl); (case hx => rfl); (case hm => (first | assumption | (apply gives_own; (case h => (repeat (first | with_reducible exact mH | with_reducible assumption | with_reducible apply mT))); (case hn => rfl)) | (apply gives_blk; (case h => (repeat (first | with_reducible exact mH | with_reducible assumption | with_reducible apply mT))); (case hn => rfl); (case hl => omega)) | (repeat (first | assumption | with_reducible apply Gives.cons)))); (case hj => first | assumption | omega)))); (try simp only [Act.put, List.setIfInBounds_toArray, List.set_cons_zero, List.set_cons_succ]); (apply anyJ_take 7 (oi := Oper.mk _ _ _ _ _ _) rfl); (case hs => kernel_rfl); (case hf => kernel_rfl); (case hr => kernel_rfl); (case hc => kernel_rfl); (case hF => kernel_rfl); (case hQ => exact fun _ _ _ h => h); (case H => first | exact H | exact Reord.use H (by ((repeat (with_reducible apply Reord.cons; (case p => (repeat (first | with_reducible exact Pull.here | with_reducible apply Pull.there))))); repeat (first | with_reducible exact Reord.rest | with_reducible apply Reord.drop)))); (case hy => (first | (first | ((apply yields_loadV (v := .slice B1 m1 d1)); (case hs => exact sc _ rfl); (case hx => rfl); (case hw => rfl); (case hm => exact G1); (case hj => assumption); (case hv => exact Hh1.out)) | ((apply yields_loadV (v := .slice B2 m2 d2)); (case hs => exact sc _ rfl); (case hx => rfl); (case hw => rfl); (case hm => exact G2); (case hj => assumption); (case hv => exact Hh2.out))) | ((apply yields_load); (case hs => exact sc _ rfl); (case hw => rfl); (case hx => rfl); (case hm => (repeat (first | with_reducible exact mH | with_reducible assumption | with_reducible apply mT))); (case hv => rfl)) | ((apply yields_loadA); (case hs => exact ag _ _ rfl); (case hw => rfl); (case hx => rfl); (case hm => (repeat (first | with_reducible exact mH | with_reducible assumption | with_reducible apply mT))); (case hv => rfl); (case hl => first | rfl | assumption)) | ((apply yields_loadB0); (case hs => exact sc _ rfl); (case hw => rfl); (case hx => rfl); (case hm => (first | assumption | (apply gives_own; (case h => (repeat (first | with_reducible exact mH | with_reducible assumption | with_reducible apply mT))); (case hn => rfl)) | (apply gives_blk; (case h => (repeat (first | with_reducible exact mH | with_reducible assumption | with_reducible apply mT))); (case hn => rfl); (case hl => omega)) | (repeat (first | assumption | with_reducible apply Gives.cons)))); (case hj => first | assumption | omega)) | ((apply yields_loadB); (case hs => exact sc _ rfl); (case hw => rfl); (case hx => rfl); (case hm => (first | assumption | (apply gives_own; (case h => (repeat (first | with_reducible exact mH | with_reducible assumption | with_reducible apply mT))); (case hn => rfl)) | (apply gives_blk; (case h => (repeat (first | with_reducible exact mH | with_reducible assumption | with_reducible apply mT))); (case hn => rfl); (case hl => omega)) | (repeat (first | assumption | with_reducible apply Gives.cons)))); (case hj => first | assumption | omega)))); (try simp only [Act.put, List.setIfInBounds_toArray, List.set_cons_zero, List.set_cons_succ]); (apply anyJ_one 8 (o := Oper.mk _ _ _ _ _ _)); (case hr => kernel_rfl); (case hi => rfl); (case hw => rfl); intro K hK; (first | (go_simp; with_reducible apply same_k g1 g2 H; clear H; (try clear W); intro W H)); (refine hK.out _ _ ?_ ?_); (· first | exact .inl rfl | exact .inr H | exact .inr (Reord.use H (by ((repeat (with_reducible apply Reord.cons; (case p => (repeat (first | with_reducible exact Pull.here | with_reducible apply Pull.there))))); repeat (first | with_reducible exact Reord.rest | with_reducible apply Reord.drop))))); clear hK K; (try simp only [Act.put, List.setIfInBounds_toArray, List.set_cons_zero, List.set_cons_succ]); (apply anyJ_takeP 9 (oi := Oper.mk _ _ _ _ _ _) rfl); (case hs => kernel_rfl); (case hf => kernel_rfl); (case hr => kernel_rfl); (case hF => kernel_rfl); (case hQ => exact fun _ _ _ h => h); (case H => first | exact .inr H | exact .inl rfl | exact .inr (Reord.use H (by ((repeat (with_reducible apply Reord.cons; (case p => (repeat (first | with_reducible exact Pull.here | with_reducible apply Pull.there))))); repeat (first | with_reducible exact Reord.rest | with_reducible apply Reord.drop))))); (case hy => first | exact yields_skip rfl | (apply yields_pure rfl; intro w; first | (go_simp; done) | (go_simp; with_reducible rfl) | rfl)); (try simp only [Act.put, List.setIfInBounds_toArray, List.set_cons_zero, List.set_cons_succ]); (apply anyJ_done (by kernel_rfl)))
        by_cases hxy : x = y
        · rw [decide_eq_true hxy]
          have he2 := Lib.hid (show l1.take (k + 1) = l2.take (k + 1) by rw [List.take_add_one, List.take_add_one, He.out, Hx.out, Hy.out, hxy])
          clear hxy
          go_wp2_with (first | go_big_skip | ((with_reducible refine wpl_absorb H ?_); clear H; (first  | generalize W.heap.size = q0); (try clear W); intro W H) | ((with_reducible refine wpl_drew H ?_); clear H; (try clear W); intro W H) | ((with_reducible refine wpl_drewN H ?_); clear H; (try clear W); intro W H) | ((with_reducible apply wpl_load H); (case hs => exact sc _ rfl); (case hw => rfl); (case hx => rfl); (case hm => (repeat (first | with_reducible exact mH | with_reducible assumption | with_reducible apply mT))); (case hv => rfl)))
          exact ⟨⟨k + 1, by omega, congrArg (Value.int .i64) (by omega), he2.out, H⟩, by simp only [intOf]; omega⟩
        · rw [decide_eq_false hxy]
          have hne := Lib.hid (decide_eq_false (show l1 ≠ l2 from fun h => hxy (by have := Hx.out; rw [h, Hy.out] at this; exact (Option.some.inj this).symm)))
          clear hxy
          go_wp2_with (first | go_big_skip | ((with_reducible refine wpl_absorb H ?_); clear H; (first  | generalize W.heap.size = q0); (try clear W); intro W H) | ((with_reducible refine wpl_drew H ?_); clear H; (try clear W); intro W H) | ((with_reducible refine wpl_drewN H ?_); clear H; (try clear W); intro W H) | ((with_reducible apply wpl_load H); (case hs => exact sc _ rfl); (case hw => rfl); (case hx => rfl); (case hm => (repeat (first | with_reducible exact mH | with_reducible assumption | with_reducible apply mT))); (case hv => rfl)))
          have := HK.out _ H
          rw [hne.out] at this
          exact this
      · have hl1 := h1.len
        have hl2 := h2.len
        have hyes := Lib.hid (decide_eq_true (show l1 = l2 by rw [List.take_of_length_le (by omega), List.take_of_length_le (by omega)] at he; exact he))
        have hkn : ¬ (k : Int) < n1 := by omega
        clear he hl1 hl2
        go_wp2_with (first | go_big_skip | ((with_reducible refine wpl_absorb H ?_); clear H; (first  | generalize W.heap.size = q0); (try clear W); intro W H) | ((with_reducible refine wpl_drew H ?_); clear H; (try clear W); intro W H) | ((with_reducible refine wpl_drewN H ?_); clear H; (try clear W); intro W H) | ((with_reducible apply wpl_load H); (case hs => exact sc _ rfl); (case hw => rfl); (case hx => rfl); (case hm => (repeat (first | with_reducible exact mH | with_reducible assumption | with_reducible apply mT))); (case hv => rfl)))
        have := HK.out _ H
        rw [hyes.out] at this
        exact this
  · have hno := Lib.hid (decide_eq_false (show l1 ≠ l2 from fun h => hn (by have e1 := h1.len; have e2 := h2.len; rw [h] at e1; omega)))
    have hni : ¬ (n1 : Int) = n2 := by omega
    go_enter Try.func23, Try.ntmps23
    go_wp2_with (first | go_big_skip | ((with_reducible refine wpl_absorb H ?_); clear H; (first  | generalize W.heap.size = q0); (try clear W); intro W H) | ((with_reducible refine wpl_drew H ?_); clear H; (try clear W); intro W H) | ((with_reducible refine wpl_drewN H ?_); clear H; (try clear W); intro W H) | ((with_reducible apply wpl_load H); (case hs => exact sc _ rfl); (case hw => rfl); (case hx => rfl); (case hm => (repeat (first | with_reducible exact mH | with_reducible assumption | with_reducible apply mT))); (case hv => rfl)))
    have := HK.out _ H
    rw [hno.out] at this
    exact this
end
end Go.Proofs.Ytdnioigcgggdbaa
