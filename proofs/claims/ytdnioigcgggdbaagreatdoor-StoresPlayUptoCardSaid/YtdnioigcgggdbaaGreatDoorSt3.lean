/-
  stores: the region's sectors, one behind the other.
-/
import Derived.Test.YtdnioigcgggdbaaGreatDoorMai
import Derived.Test.YtdnioigcgggdbaaGreatDoorMak
set_option linter.unusedVariables false
set_option linter.unusedSimpArgs false
namespace Go.Proofs.YtdnioigcgggdbaaGreatDoor
open Go.RowKit Go.Shelf
theorem read_at {W : World} {L L0 : List Ent} {R : Ending → World → Prop} {g : Nat} {v : Dv} {d : Dd} (n : Nat) {N : Int} (s : List UInt8) (hN : N = (n : Int)) (hs : d.no[n]? = some s) (H : Holds W L) (hm : Pull (dkE g v d) L L0) (k : ∀ b w', Holds w' (ownE 5 1 (.slice (some ⟨b, 0, none⟩) 64 64) 64 (bvs s) :: dkE g v d :: L0) → R (.returned (.tuple #[.slice (some ⟨b, 0, none⟩) 64 64, .int .i64 0])) w') :
    Calls Tryz.prog 60 #[.pointer (some ⟨g, 0, none⟩), .int .i64 N] W R := by
  subst hN
  exact read_k n s hs H hm k
/-- behind the round of a sector. -/
def regJ {α : Type} (B p g : Nat) (r : List Value) (dv : Dv) (d : Dd) (X : Nat → α → List Ent) (j : Nat) (x : α) : List Ent :=
  blk B [.pointer (some ⟨p, 0, none⟩)] 33 :: blk p (.pointer (some ⟨g, 0, none⟩) :: r) 76 :: dkE g dv d :: X j x
def regY {α : Type} (B p g : Nat) (r : List Value) (dv : Dv) (d : Dd) (fr : Nat) (X : Nat → α → List Ent) (j : Nat) (x : α) (b : Nat) : List Ent :=
  ownE 5 1 (.slice (some ⟨b, 0, none⟩) 64 64) 64 (bvs (d.no[fr + j]?.getD [])) :: regJ B p g r dv d X j x
set_option maxRecDepth 100000 in
set_option maxHeartbeats 2000000 in
theorem region1_in {α : Type} {B p g fr mn : Nat} {r : List Value} {dv : Dv} {d : Dd} (hfr : fr + mn ≤ d.su.length) (h4 : d.su.length ≤ 4096) (X : Nat → α → List Ent) (x0 : α) (m l : Nat) (hm : 1 ≤ m) (O : List Ent)
    (hY : ∀ j x b W, Holds W (regY B p g (.int .i64 fr :: .int .i64 mn :: r) dv d fr X j x b ++ O) → j < mn →
      YieldAt Fence.wide (m - 1) Tryz.prog l #[.int .i64 j, .slice (some ⟨b, 0, none⟩) 64 64] W fun e W' => e = .returned (.bool true) ∧ ∃ x', Holds W' (regJ B p g (.int .i64 fr :: .int .i64 mn :: r) dv d X (j + 1) x' ++ O))
    (W : World) (H : Holds W (regJ B p g (.int .i64 fr :: .int .i64 mn :: r) dv d X 0 x0 ++ O)) :
    CallsIn Fence.wide m Tryz.prog 95 #[.func (.yield l) #[] #[], .pointer (some ⟨B, 0, none⟩)] W fun e W' => (∃ v, e = .returned v) ∧ ∃ j x, j = mn ∧ Holds W' (regJ B p g (.int .i64 fr :: .int .i64 mn :: r) dv d X j x ++ O) := by
  refine callsIn_wide.2 ?_
  unfold regJ at H
  simp only [List.cons_append] at H
  go_enter Tryz.func95, Tryz.ntmps95
  go_wp2_with (first | ((with_reducible apply wpl_load H); (case hs => exact sc _ rfl); (case hw | hx => rfl); (case hm => (with_reducible repeat first | exact mH | apply mT)); (case hv => rfl)))
  go_loopw [10] (fun i wr => ∃ (j : Nat) (x : α), j ≤ mn ∧ i = .int .i64 j ∧ Holds wr (blk B [.pointer (some ⟨p, 0, none⟩)] 33 :: blk p (.pointer (some ⟨g, 0, none⟩) :: .int .i64 fr :: .int .i64 mn :: r) 76 :: dkE g dv d :: (X j x ++ O))) (fun i _ => mn - (intOf i).toNat)
  case atStart => exact ⟨0, x0, by omega, rfl, H⟩
  case round =>
    clear H
    obtain ⟨j, x, hj, rfl, H⟩ := hrel
    rename World => W
    by_cases hlt : j < mn
    · have hji : (j : Int) < mn := by omega
      have hno : d.no.length = d.su.length := (H.all (dkE g dv d) (by (with_reducible repeat first | exact mH | assumption | apply mT))).1.nn
      obtain ⟨s, hs⟩ : ∃ s, d.no[fr + j]? = some s := ⟨_, List.getElem?_eq_getElem (by omega)⟩
      have Hs := Lib.hid hs
      have e1 := Lib.hid (wrapI (x := (fr : Int) + (j : Int)) (by omega) (by omega))
      clear hs hno
      go_wp2_with (first | go_big_skip )
      ((refine wp_region_J [10] H (by kernel_rfl) ?_); clear H; (try clear W); intro W H; (apply anyJ_takeP 8 (oi := Oper.mk _ _ _ _ _ _) rfl); (case hs | hf => kernel_rfl); (case hr | hF => kernel_rfl); (case hQ => exact fun _ _ _ h => h); (case H => first | exact .inr H ); (case hy => first | (apply yields_pure rfl; intro w; first | (go_simp; with_reducible rfl) )); (try simp only [Act.put, sA, sB, sC]); (apply anyJ_take 0 (oi := Oper.mk _ _ _ _ _ _) rfl); (case hs | hf => kernel_rfl); (case hr | hc | hF => kernel_rfl); (case hQ => exact fun _ _ _ h => h); (case H => first | exact H ); (case hy => (first | ((apply yields_load); (case hs => exact sc _ rfl); (case hw | hx => rfl); (case hm => (with_reducible repeat first | exact mH)); (case hv => rfl)) )); (try simp only [Act.put, sA, sB, sC]); (apply anyJ_takeP 1 (oi := Oper.mk _ _ _ _ _ _) rfl); (case hs | hf => kernel_rfl); (case hr | hF => kernel_rfl); (case hQ => exact fun _ _ _ h => h); (case H => first | exact .inr H ); (case hy => first | (apply yields_pure rfl; intro w; first | (go_simp; with_reducible rfl) )); (try simp only [Act.put, sA, sB, sC]); (apply anyJ_takeP 2 (oi := Oper.mk _ _ _ _ _ _) rfl); (case hs | hf => kernel_rfl); (case hr | hF => kernel_rfl); (case hQ => exact fun _ _ _ h => h); (case H => first | exact .inr H ); (case hy => first | (apply yields_pure rfl; intro w; first | (go_simp; with_reducible rfl) )); (try simp only [Act.put, sA, sB, sC]); (apply anyJ_take 3 (oi := Oper.mk _ _ _ _ _ _) rfl); (case hs | hf => kernel_rfl); (case hr | hc | hF => kernel_rfl); (case hQ => exact fun _ _ _ h => h); (case H => first | exact H ); (case hy => (first | ((apply yields_load); (case hs => exact sc _ rfl); (case hw | hx => rfl); (case hm => (with_reducible repeat first | exact mH | apply mT)); (case hv => rfl)) )); (try simp only [Act.put, sA, sB, sC]); (apply anyJ_take 4 (oi := Oper.mk _ _ _ _ _ _) rfl); (case hs | hf => kernel_rfl); (case hr | hc | hF => kernel_rfl); (case hQ => exact fun _ _ _ h => h); (case H => first | exact H ); (case hy => (first | ((apply yields_load); (case hs => exact sc _ rfl); (case hw | hx => rfl); (case hm => (with_reducible repeat first | exact mH)); (case hv => rfl)) )); (try simp only [Act.put, sA, sB, sC]); (apply anyJ_takeP 5 (oi := Oper.mk _ _ _ _ _ _) rfl); (case hs | hf => kernel_rfl); (case hr | hF => kernel_rfl); (case hQ => exact fun _ _ _ h => h); (case H => first | exact .inr H ); (case hy => first | (apply yields_pure rfl; intro w; first | (go_simp; with_reducible rfl) )); (try simp only [Act.put, sA, sB, sC]); (apply anyJ_takeP 6 (oi := Oper.mk _ _ _ _ _ _) rfl); (case hs | hf => kernel_rfl); (case hr | hF => kernel_rfl); (case hQ => exact fun _ _ _ h => h); (case H => first | exact .inr H ); (case hy => first | (apply yields_pure rfl; intro w; first | (go_simp; with_reducible rfl) )); (try simp only [Act.put, sA, sB, sC]); (apply anyJ_take 7 (oi := Oper.mk _ _ _ _ _ _) rfl); (case hs | hf => kernel_rfl); (case hr | hc | hF => kernel_rfl); (case hQ => exact fun _ _ _ h => h); (case H => first | exact H ); (case hy => (first | ((apply yields_load); (case hs => exact sc _ rfl); (case hw | hx => rfl); (case hm => (with_reducible repeat first | exact mH | apply mT)); (case hv => rfl)) )); (try simp only [Act.put, sA, sB, sC]); (apply anyJ_takeP 9 (oi := Oper.mk _ _ _ _ _ _) rfl); (case hs | hf => kernel_rfl); (case hr | hF => kernel_rfl); (case hQ => exact fun _ _ _ h => h); (case H => first | exact .inr H ); (case hy => first | (apply yields_pure rfl; intro w; first | (go_simp; with_reducible rfl) )); (try simp only [Act.put, sA, sB, sC]); (apply anyJ_one 10 (o := Oper.mk _ _ _ _ _ _)); (case hr => kernel_rfl); (case hi | hw => rfl); intro K hK; (first | (go_simp; (with_reducible apply read_at (fr + j) s); (case hN => first | (rw [e1.out]; omega) ); (case hs => exact Hs.out); (case H => exact H); (case hm => (with_reducible repeat first | exact Pull.here | apply Pull.there)); clear H; (try clear W); intro b W H)); (refine hK.out _ _ ?_ ?_); (· first | exact .inl rfl ); clear hK K; (try simp only [Act.put, sA, sB, sC]); (apply anyJ_takeP 11 (oi := Oper.mk _ _ _ _ _ _) rfl); (case hs | hf => kernel_rfl); (case hr | hF => kernel_rfl); (case hQ => exact fun _ _ _ h => h); (case H => first | exact .inl rfl ); (case hy => first | (apply yields_pure rfl; intro w; first | (go_simp; with_reducible rfl) )); (try simp only [Act.put, sA, sB, sC]); (apply anyJ_takeP 12 (oi := Oper.mk _ _ _ _ _ _) rfl); (case hs | hf => kernel_rfl); (case hr | hF => kernel_rfl); (case hQ => exact fun _ _ _ h => h); (case H => first | exact .inl rfl ); (case hy => first | (apply yields_pure rfl; intro w; first | (go_simp; with_reducible rfl) )); (try simp only [Act.put, sA, sB, sC]); (apply anyJ_takeP 13 (oi := Oper.mk _ _ _ _ _ _) rfl); (case hs | hf => kernel_rfl); (case hr | hF => kernel_rfl); (case hQ => exact fun _ _ _ h => h); (case H => first | exact .inl rfl ); (case hy => first | (apply yields_pure rfl; intro w; first | (go_simp; with_reducible rfl) )); (try simp only [Act.put, sA, sB, sC]); (apply anyJ_takeP 14 (oi := Oper.mk _ _ _ _ _ _) rfl); (case hs | hf => kernel_rfl); (case hr | hF => kernel_rfl); (case hQ => exact fun _ _ _ h => h); (case H => first | exact .inl rfl ); (case hy => first | (apply yields_pure rfl; intro w; first | (go_simp; with_reducible rfl) )); (try simp only [Act.put, sA, sB, sC]); (apply anyJ_takeP 15 (oi := Oper.mk _ _ _ _ _ _) rfl); (case hs | hf => kernel_rfl); (case hr | hF => kernel_rfl); (case hQ => exact fun _ _ _ h => h); (case H => first | exact .inl rfl ); (case hy => first | (apply yields_pure rfl; intro w; first | (go_simp; with_reducible rfl) )); (try simp only [Act.put, sA, sB, sC]); (apply anyJ_done (by kernel_rfl)))
      go_step
      go_step
      go_step
      refine (wpIn_wide (n := m) (c := Code.region 4 _ _)).1 ?_
      have H2 : Holds W (regY B p g (.int .i64 fr :: .int .i64 mn :: r) dv d fr X j x b ++ O) := by
        unfold regY regJ
        rw [Hs.out, Option.getD_some]
        simp only [List.cons_append]
        exact Reord.use H (by ((repeat (with_reducible apply Reord.cons; (case p => (with_reducible repeat first | exact Pull.here | apply Pull.there)))); repeat (with_reducible exact Reord.rest)))
      obtain ⟨fn, tmps, assign, body, hy, hR⟩ := hY j x b W H2 hlt
      clear H H2
      gi_wp2
      refine hR.mono ?_
      rintro e W3 ⟨rfl, x', H⟩
      clear hy hR W
      rename World => W
      unfold regJ at H
      simp only [List.cons_append] at H
      gi_wp2
      go_wp2_with (first | go_big_skip )
      exact ⟨⟨j + 1, x', by omega, congrArg (Value.int .i64) (by omega), H⟩, by simp only [intOf]; omega⟩
    · obtain rfl : j = mn := by omega
      go_wp2_with (first | go_big_skip )
      go_end0
      exact ⟨⟨_, rfl⟩, j, x, rfl, H⟩
end Go.Proofs.YtdnioigcgggdbaaGreatDoor
