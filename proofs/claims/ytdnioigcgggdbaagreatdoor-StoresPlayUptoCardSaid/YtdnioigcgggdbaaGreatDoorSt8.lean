/-
  stores: a part is laid; the steps of Add.
-/
import Derived.Test.YtdnioigcgggdbaaGreatDoorSt7
import Derived.Test.YtdnioigcgggdbaaGreatDoorMaj
set_option linter.unusedVariables false
set_option linter.unusedSimpArgs false
namespace Go.Proofs.YtdnioigcgggdbaaGreatDoor
open Go.RowKit
theorem sc_fn0 : Scalar Tryz.prog 55 := by unfold Scalar; kernel_rfl
theorem inf_fn0 : (Tryz.prog.info? 55).map (fun i => (i.zero, i.size, i.bytes)) = some (some .nilFunc, 1, 8) := by kernel_rfl
theorem opw_alloc {P : Program} {a : Act} {w : World} {K : Act → World → Prop} {Q : Exit → Act → World → Prop} {dst : Option Tmp} {T T' : TypeId} {ty : TypeId} {pos : String} {after : Array Edge} {gd : Option (Nat × Bool)} {L : List Ent} {zs : List Value} (H : Holds w L)
    (hr : ∀ w : World, (execOp a.eval ⟨dst, .alloc T, ty, pos, after, gd⟩).run P w = .ok (.value (.pointer (some ⟨w.heap.size, 0, none⟩))) (w.alloc (.cells zs.toArray T')))
    (h : ∀ b w', Holds w' (blk b zs T' :: L) → K (a.put dst (.pointer (some ⟨b, 0, none⟩))) w') : Oper.wp P ⟨dst, .alloc T, ty, pos, after, gd⟩ a w K Q :=
  opw_run (hr w) (h _ _ (H.alloc zs T'))
section
variable {W : World} {L L' L0 L1 : List Ent} {R : Ending → World → Prop} {p g : Nat} {dv : Dv} {d d' : Dd} {r : List Value} {A : Option Addr} {m c fr at_ : Nat} {e : Int} {b : List UInt8}
set_option maxRecDepth 100000 in
set_option maxHeartbeats 2000000 in
theorem lay_k (hfa : fr + at_ ≤ 1000000) (hz : d.write ((fr + at_ : Nat) : Int) b = (d', e)) (hlen : d.wa.length ≤ 1000000) (H : Holds W L) (hp : blk p (.pointer (some ⟨g, 0, none⟩) :: .int .i64 fr :: r) 76 ∈ L0) (hm : Pull (dkE g dv d) L L0) (hr : Gives L0 fun w => Rd w 1 A m c (bvs b))
    (k : ∀ v' w', Holds w' (dkE g v' d' :: L0) → R (.returned (.int .i64 e)) w') :
    Calls Tryz.prog 57 #[.agg #[.pointer (some ⟨p, 0, none⟩), .int .i64 (at_ : Int), .slice A m c]] W R := by
  have H2 := H.pull hm
  clear H hm
  have H := H2
  clear H2
  have HK := Lib.hid k; clear k
  have Hz := Lib.hid hz
  have e1 := Lib.hid (wrapI (x := (fr : Int) + (at_ : Int)) (by omega) (by omega))
  have Hlen := Lib.hid hlen
  have Hr := Lib.hid hr
  clear hz hlen hr
  go_enter Tryz.func57, Tryz.ntmps57
  go_wp2_with (first | go_big_skip )
  refine wp_absorb (cs := [.pointer (some ⟨p, 0, none⟩), .int .i64 (at_ : Int), .slice A m c]) H ?_
  clear H
  generalize W.heap.size = q1
  (try clear W)
  intro W H
  ((refine wp_region_J [15] H (by kernel_rfl) ?_); clear H; (try clear W); intro W H; (apply anyJ_takeP 0 (oi := Oper.mk _ _ _ _ _ _) rfl); (case hs | hf => kernel_rfl); (case hr | hF => kernel_rfl); (case hQ => exact fun _ _ _ h => h); (case H => first | exact .inr H ); (case hy => first | (apply yields_pure rfl; intro w; first | (go_simp; with_reducible rfl) )); (try simp only [Act.put, sA, sB, sC]); (apply anyJ_takeP 5 (oi := Oper.mk _ _ _ _ _ _) rfl); (case hs | hf => kernel_rfl); (case hr | hF => kernel_rfl); (case hQ => exact fun _ _ _ h => h); (case H => first | exact .inr H ); (case hy => first | (apply yields_pure rfl; intro w; first | (go_simp; with_reducible rfl) )); (try simp only [Act.put, sA, sB, sC]); (apply anyJ_takeP 10 (oi := Oper.mk _ _ _ _ _ _) rfl); (case hs | hf => kernel_rfl); (case hr | hF => kernel_rfl); (case hQ => exact fun _ _ _ h => h); (case H => first | exact .inr H ); (case hy => first | (apply yields_pure rfl; intro w; first | (go_simp; with_reducible rfl) )); (try simp only [Act.put, sA, sB, sC]); (apply anyJ_takeP 13 (oi := Oper.mk _ _ _ _ _ _) rfl); (case hs | hf => kernel_rfl); (case hr | hF => kernel_rfl); (case hQ => exact fun _ _ _ h => h); (case H => first | exact .inr H ); (case hy => first | (apply yields_pure rfl; intro w; first | (go_simp; with_reducible rfl) )); (try simp only [Act.put, sA, sB, sC]); (apply anyJ_take 1 (oi := Oper.mk _ _ _ _ _ _) rfl); (case hs | hf => kernel_rfl); (case hr | hc | hF => kernel_rfl); (case hQ => exact fun _ _ _ h => h); (case H => first | exact H ); (case hy => (first | ((apply yields_load); (case hs => exact sc _ rfl); (case hw | hx => rfl); (case hm => (with_reducible repeat first | exact mH)); (case hv => rfl)) )); (try simp only [Act.put, sA, sB, sC]); (apply anyJ_takeP 2 (oi := Oper.mk _ _ _ _ _ _) rfl); (case hs | hf => kernel_rfl); (case hr | hF => kernel_rfl); (case hQ => exact fun _ _ _ h => h); (case H => first | exact .inr H ); (case hy => first | (apply yields_pure rfl; intro w; first | (go_simp; with_reducible rfl) )); (try simp only [Act.put, sA, sB, sC]); (apply anyJ_takeP 3 (oi := Oper.mk _ _ _ _ _ _) rfl); (case hs | hf => kernel_rfl); (case hr | hF => kernel_rfl); (case hQ => exact fun _ _ _ h => h); (case H => first | exact .inr H ); (case hy => first | (apply yields_pure rfl; intro w; first | (go_simp; with_reducible rfl) )); (try simp only [Act.put, sA, sB, sC]); (apply anyJ_take 4 (oi := Oper.mk _ _ _ _ _ _) rfl); (case hs | hf => kernel_rfl); (case hr | hc | hF => kernel_rfl); (case hQ => exact fun _ _ _ h => h); (case H => first | exact H ); (case hy => (first | ((apply yields_load); (case hs => exact sc _ rfl); (case hw | hx => rfl); (case hm => (with_reducible repeat first | assumption | apply mT)); (case hv => rfl)) )); (try simp only [Act.put, sA, sB, sC]); (apply anyJ_take 6 (oi := Oper.mk _ _ _ _ _ _) rfl); (case hs | hf => kernel_rfl); (case hr | hc | hF => kernel_rfl); (case hQ => exact fun _ _ _ h => h); (case H => first | exact H ); (case hy => (first | ((apply yields_load); (case hs => exact sc _ rfl); (case hw | hx => rfl); (case hm => (with_reducible repeat first | exact mH)); (case hv => rfl)) )); (try simp only [Act.put, sA, sB, sC]); (apply anyJ_takeP 7 (oi := Oper.mk _ _ _ _ _ _) rfl); (case hs | hf => kernel_rfl); (case hr | hF => kernel_rfl); (case hQ => exact fun _ _ _ h => h); (case H => first | exact .inr H ); (case hy => first | (apply yields_pure rfl; intro w; first | (go_simp; with_reducible rfl) )); (try simp only [Act.put, sA, sB, sC]); (apply anyJ_takeP 8 (oi := Oper.mk _ _ _ _ _ _) rfl); (case hs | hf => kernel_rfl); (case hr | hF => kernel_rfl); (case hQ => exact fun _ _ _ h => h); (case H => first | exact .inr H ); (case hy => first | (apply yields_pure rfl; intro w; first | (go_simp; with_reducible rfl) )); (try simp only [Act.put, sA, sB, sC]); (apply anyJ_take 9 (oi := Oper.mk _ _ _ _ _ _) rfl); (case hs | hf => kernel_rfl); (case hr | hc | hF => kernel_rfl); (case hQ => exact fun _ _ _ h => h); (case H => first | exact H ); (case hy => (first | ((apply yields_load); (case hs => exact sc _ rfl); (case hw | hx => rfl); (case hm => (with_reducible repeat first | assumption | apply mT)); (case hv => rfl)) )); (try simp only [Act.put, sA, sB, sC]); (apply anyJ_take 11 (oi := Oper.mk _ _ _ _ _ _) rfl); (case hs | hf => kernel_rfl); (case hr | hc | hF => kernel_rfl); (case hQ => exact fun _ _ _ h => h); (case H => first | exact H ); (case hy => (first | ((apply yields_load); (case hs => exact sc _ rfl); (case hw | hx => rfl); (case hm => (with_reducible repeat first | exact mH)); (case hv => rfl)) )); (try simp only [Act.put, sA, sB, sC]); (apply anyJ_takeP 12 (oi := Oper.mk _ _ _ _ _ _) rfl); (case hs | hf => kernel_rfl); (case hr | hF => kernel_rfl); (case hQ => exact fun _ _ _ h => h); (case H => first | exact .inr H ); (case hy => first | (apply yields_pure rfl; intro w; first | (go_simp; with_reducible rfl) )); (try simp only [Act.put, sA, sB, sC]); (apply anyJ_take 14 (oi := Oper.mk _ _ _ _ _ _) rfl); (case hs | hf => kernel_rfl); (case hr | hc | hF => kernel_rfl); (case hQ => exact fun _ _ _ h => h); (case H => first | exact H ); (case hy => (first | ((apply yields_load); (case hs => exact sc _ rfl); (case hw | hx => rfl); (case hm => (with_reducible repeat first | exact mH)); (case hv => rfl)) )); (try simp only [Act.put, sA, sB, sC]); (apply anyJ_one 15 (o := Oper.mk _ _ _ _ _ _)); (case hr => kernel_rfl); (case hi | hw => rfl); intro K hK; (first | (go_simp; (with_reducible apply dwrite_at (fr + at_) b); (case hN => first | (rw [e1.out]; omega) ); (case hz => exact Hz.out); (case hlen => exact Hlen.out); (case H => exact H); (case hm => (with_reducible repeat first | exact Pull.here | apply Pull.there)); (case hr => exact .cons Hr.out); clear H; (try clear W); intro dv2 W H)); (refine hK.out _ _ ?_ ?_); (· first | exact .inl rfl ); clear hK K; (try simp only [Act.put, sA, sB, sC]); (apply anyJ_takeP 16 (oi := Oper.mk _ _ _ _ _ _) rfl); (case hs | hf => kernel_rfl); (case hr | hF => kernel_rfl); (case hQ => exact fun _ _ _ h => h); (case H => first | exact .inl rfl ); (case hy => first | (apply yields_pure rfl; intro w; first | (go_simp; with_reducible rfl) )); (try simp only [Act.put, sA, sB, sC]); (apply anyJ_done (by kernel_rfl)))
  go_wp2_with (first | go_big_skip )
  exact HK.out _ _ (Reord.use H (by ((repeat (with_reducible apply Reord.cons; (case p => (with_reducible repeat first | exact Pull.here)))); repeat (first | with_reducible exact Reord.rest | with_reducible apply Reord.drop))))
theorem lay_at {N : Int} (at_ : Nat) (b : List UInt8) (hN : N = (at_ : Int)) (hz : d.write ((fr + at_ : Nat) : Int) b = (d', e)) (hfa : fr + at_ ≤ 1000000) (hlen : d.wa.length ≤ 1000000) (H : Holds W L) (hm : Pull (dkE g dv d) L L0) (hp : blk p (.pointer (some ⟨g, 0, none⟩) :: .int .i64 fr :: r) 76 ∈ L0) (hr : Gives L0 fun w => Rd w 1 A m c (bvs b))
    (k : ∀ v' w', Holds w' (dkE g v' d' :: L0) → R (.returned (.int .i64 e)) w') :
    Calls Tryz.prog 57 #[.agg #[.pointer (some ⟨p, 0, none⟩), .int .i64 N, .slice A m c]] W R := by
  subst hN
  exact lay_k hfa hz hlen H hp hm hr k
end
end Go.Proofs.YtdnioigcgggdbaaGreatDoor
