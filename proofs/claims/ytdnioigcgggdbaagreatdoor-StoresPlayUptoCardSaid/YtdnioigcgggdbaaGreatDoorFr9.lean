/-
  frames: the other steps of a check.
-/
import Derived.Test.YtdnioigcgggdbaaGreatDoorMaj
import Derived.Test.YtdnioigcgggdbaaGreatDoorMab
set_option linter.unusedVariables false
set_option linter.unusedSimpArgs false
namespace Go.Proofs.YtdnioigcgggdbaaGreatDoor
open Go.RowKit

section
variable {W : World} {L L' L0 : List Ent} {R : Ending → World → Prop} {A : Option Addr} {b o m c p : Nat} {l : List UInt8}
theorem run_slice2 {w : World} {b o n c q r : Nat} {lo hi : Int} {A' : Option Addr} (hA : A' = if c = q then some ⟨b, o, none⟩ else some ⟨b, o + q, none⟩) (hl : lo = (q : Int)) (hh : hi = (r : Int)) (h1 : q ≤ r) (h2 : r ≤ c) :
    (Instr.sliceAt 50 (.slice (some ⟨b, o, none⟩) n c) (some (.int .i64 lo)) (some (.int .i64 hi)) none).run Tryz.prog w = .ok (.slice A' (r - q) (c - q)) w := by
  subst hl hh hA
  have hu : Tryz.prog.underlying 50 = some (.slice (Tryz.prog.elem 50)) := by kernel_rfl
  have hs : ∀ w, (sizeOf (Tryz.prog.elem 50)).run Tryz.prog w = .ok 1 w := fun w => by kernel_rfl
  rw [run_sliceAt_slice _ _ _ _ _ _ hu, run_slice_lh _ _ _ _ _ hu _ _ _ _ (by omega) (by omega) (by omega), hs]
  simp only [Result.andThen, sliced, Int.toNat_natCast, Nat.mul_one, Option.map_some]
  rw [show (⟨b, o, none⟩ : Addr).add q = ⟨b, o + q, none⟩ by unfold Addr.add; split <;> simp_all]
theorem yields_slice2 {J : World → Prop} {ops : Array Oper} {a : Act} {dst : Option Tmp} {x s t : Operand} {ty : TypeId} {pos : String} {after : Array Edge} {gd : Option (Nat × Bool)} (hw : Region.wanted ⟨dst, .slice 50 x (some s) (some t) none, ty, pos, after, gd⟩ (yielded ops a.tmps) = true) {b o n c q r : Nat} {lo hi : Int} {A' : Option Addr}
    (hx : a.eval x = .slice (some ⟨b, o, none⟩) n c) (hs : a.eval s = .int .i64 lo) (ht : a.eval t = .int .i64 hi) (hA : A' = if c = q then some ⟨b, o, none⟩ else some ⟨b, o + q, none⟩) (hl : lo = (q : Int)) (hh : hi = (r : Int)) (h1 : q ≤ r) (h2 : r ≤ c) :
    YieldsIf Tryz.prog ops J ⟨dst, .slice 50 x (some s) (some t) none, ty, pos, after, gd⟩ (.slice A' (r - q) (c - q)) a := .inl ⟨hw, fun w _ => by
  unfold execOp
  simp only [hx, hs, ht, Option.map_none, Option.map_some, Sem.run_bind, run_slice2 hA hl hh h1 h2, Result.andThen_ok, Sem.run_pure]⟩
theorem midA {w : World} {b o n c : Nat} {l : List UInt8} {A' : Option Addr} (lo hi : Nat) (hA : A' = if c = lo then some ⟨b, o, none⟩ else some ⟨b, o + lo, none⟩) (h1 : lo ≤ hi) (h2 : hi ≤ n) (hr : Rd w 1 (some ⟨b, o, none⟩) n c (bvs l)) : Rd w 1 A' (hi - lo) (c - lo) (bvs ((l.take hi).drop lo)) := by
  have hle := hr.le
  have := hr.cut lo hi c (by omega) (by omega) (by omega) (by omega)
  rw [Option.map_some, Nat.mul_one, Nat.mul_one, ← bvs_drop, ← bvs_take, ← List.drop_take, show (⟨b, o, none⟩ : Addr).add lo = ⟨b, o + lo, none⟩ by unfold Addr.add; split <;> simp_all] at this
  rwa [← hA] at this
set_option maxRecDepth 100000 in
set_option maxHeartbeats 1000000 in
theorem nz_k (x : UInt8) (H : Holds W L) (k : ∀ w', Holds w' L → R (.returned (.bool (x != 0))) w') : Calls Tryz.prog 147 #[.int .u8 (x.toNat : Nat)] W R := by
  have HK := Lib.hid k; clear k
  have hx : (x != 0) = ((x.toNat : Int) != 0) := by
    by_cases h : x = 0
    · subst h; rfl
    · have : x.toNat ≠ 0 := fun h' => h (UInt8.toNat_inj.1 h')
      rw [bne_iff_ne.2 h, bne_iff_ne.2 (show (x.toNat : Int) ≠ 0 by omega)]
  rw [hx] at HK
  clear hx
  go_enter Tryz.func147, Tryz.ntmps147
  go_wp2_with (first | go_big_skip )
  exact HK.out _ H
set_option maxRecDepth 100000 in
set_option maxHeartbeats 1000000 in
theorem index_k (hn : m ≤ 1000000) (G : Gives L fun w => Rd w 1 A m c (bvs l)) (H : Holds W L) (k : ∀ (r : Int) w', (l.any (· != 0) = decide (0 ≤ r)) → Holds w' L → R (.returned (.int .i64 r)) w') :
    Calls Tryz.prog 96 #[.slice A m c, .func (.func 147) #[] #[]] W R := by
  have HK := Lib.hid k; clear k
  have hl := (G W H).blen
  go_enter Tryz.func96, Tryz.ntmps96
  go_wp2_with (first | go_big_skip )
  go_loopw [8] (fun i wr => ∃ k : Nat, k ≤ m ∧ i = .int .i64 k ∧ (l.take k).any (· != 0) = false ∧ Holds wr L) (fun i _ => m - (intOf i).toNat)
  case atStart => exact ⟨0, by omega, rfl, by simp, H⟩
  case round =>
    clear H
    obtain ⟨k, hk, rfl, he, H⟩ := hrel
    rename World => W
    by_cases hlt : k < m
    · have hlk : k < l.length := by omega
      have hsn : (l.take (k + 1)).any (· != 0) = ((l.take k).any (· != 0) || (l[k] != 0)) := by
        rw [List.take_add_one, List.getElem?_eq_getElem hlk, List.any_append]
        simp
      have hall : l.any (· != 0) = ((l.take (k + 1)).any (· != 0) || (l.drop (k + 1)).any (· != 0)) := by
        rw [← List.any_append, List.take_append_drop]
      have Hsn := Lib.hid hsn
      have Hall := Lib.hid hall
      have He := Lib.hid he
      clear hsn hall he
      obtain ⟨a1, o1, rfl, -⟩ := (G W H).at_ (by omega)
      have hki : (k : Int) < m := by omega
      have hk0 : (0 : Int) ≤ k := by omega
      cases hz : (l[k] != 0) with
      | true =>
        go_wp2_with (first | ((with_reducible apply wpl_loadB H); (case hs => exact sc _ rfl); (case hw | hx => rfl); (case hm => (first | assumption )); (case hj => first | assumption )) | ((with_reducible apply nz_k _ H); clear H; (try clear W); intro W H; rw [hz]))
        exact HK.out _ _ (by rw [Hall.out, Hsn.out, hz, decide_eq_true hk0]; simp) H
      | false =>
        go_wp2_with (first | ((with_reducible apply wpl_loadB H); (case hs => exact sc _ rfl); (case hw | hx => rfl); (case hm => (first | assumption )); (case hj => first | assumption )) | ((with_reducible apply nz_k _ H); clear H; (try clear W); intro W H; rw [hz]))
        exact ⟨⟨k + 1, by omega, congrArg (Value.int .i64) (by omega), by rw [Hsn.out, He.out, hz]; rfl, H⟩, by simp only [intOf]; omega⟩
    · have hkm : k = m := by omega
      subst hkm
      rw [List.take_of_length_le (by omega)] at he
      have He := Lib.hid he
      clear he
      have hki : ¬ (k : Int) < k := by omega
      go_wp2_with (first | go_big_skip )
      exact HK.out _ _ (by rw [He.out]; rfl) H
set_option maxRecDepth 100000 in
set_option maxHeartbeats 1000000 in
theorem contains_k (hn : m ≤ 1000000) (G : Gives L fun w => Rd w 1 A m c (bvs l)) (H : Holds W L) (k : ∀ w', Holds w' L → R (.returned (.bool (l.any (· != 0)))) w') :
    Calls Tryz.prog 36 #[.slice A m c, .func (.func 147) #[] #[]] W R := by
  have HK := Lib.hid k; clear k
  go_enter Tryz.func36, Tryz.ntmps36
  go_wp2_with (first | ((with_reducible apply index_k hn G H); clear H; (try clear W); intro r W hr H; rw [hr] at HK))
  exact HK.out _ H
set_option maxRecDepth 100000 in
set_option maxHeartbeats 1000000 in
theorem st3_k {x : Value} {y : Nat} (hy : y ≤ 65535) (H : Holds W L) (hm : Pull (blk p [.slice A m c, x, .int .i64 (y : Nat)] 177) L L0) (k : ∀ w', Holds w' (blk p [.slice A m c, x, .int .i64 (y : Nat)] 177 :: L0) → R (.returned (.bool (decide (secs y * 64 ≤ m)))) w') :
    Calls Tryz.prog 145 #[.pointer (some ⟨p, 0, none⟩)] W R := by
  have HK := Lib.hid k; clear k
  replace H := H.pull hm
  clear hm
  have hs := secs_lt y
  rw [show decide (secs y * 64 ≤ m) = decide (IntKind.i64.wrap (((secs y : Nat) : Int) * 64) ≤ (m : Int)) from decide_eq_decide.2 (by rw [wrapI (by omega) (by omega)]; omega)] at HK
  go_enter Tryz.func145, Tryz.ntmps145
  go_wp2_with (first | go_big_skip )
  ((refine wp_region_J [] H (by kernel_rfl) ?_); clear H; (try clear W); intro W H; (apply anyJ_takeP 0 (oi := Oper.mk _ _ _ _ _ _) rfl); (case hs | hf => kernel_rfl); (case hr | hF => kernel_rfl); (case hQ => exact fun _ _ _ h => h); (case H => first | exact .inr H ); (case hy => first | (apply yields_pure rfl; intro w; first | (go_simp; with_reducible rfl) )); (try simp only [Act.put, sA, sB, sC]); (apply anyJ_takeP 1 (oi := Oper.mk _ _ _ _ _ _) rfl); (case hs | hf => kernel_rfl); (case hr | hF => kernel_rfl); (case hQ => exact fun _ _ _ h => h); (case H => first | exact .inr H ); (case hy => first | (apply yields_pure rfl; intro w; first | (go_simp; with_reducible rfl) )); (try simp only [Act.put, sA, sB, sC]); (apply anyJ_takeP 2 (oi := Oper.mk _ _ _ _ _ _) rfl); (case hs | hf => kernel_rfl); (case hr | hF => kernel_rfl); (case hQ => exact fun _ _ _ h => h); (case H => first | exact .inr H ); (case hy => first | (apply yields_pure rfl; intro w; first | (go_simp; with_reducible rfl) )); (try simp only [Act.put, sA, sB, sC]); (apply anyJ_takeP 5 (oi := Oper.mk _ _ _ _ _ _) rfl); (case hs | hf => kernel_rfl); (case hr | hF => kernel_rfl); (case hQ => exact fun _ _ _ h => h); (case H => first | exact .inr H ); (case hy => first | (apply yields_pure rfl; intro w; first | (go_simp; with_reducible rfl) )); (try simp only [Act.put, sA, sB, sC]); (apply anyJ_takeP 6 (oi := Oper.mk _ _ _ _ _ _) rfl); (case hs | hf => kernel_rfl); (case hr | hF => kernel_rfl); (case hQ => exact fun _ _ _ h => h); (case H => first | exact .inr H ); (case hy => first | (apply yields_pure rfl; intro w; first | (go_simp; with_reducible rfl) )); (try simp only [Act.put, sA, sB, sC]); (apply anyJ_takeP 7 (oi := Oper.mk _ _ _ _ _ _) rfl); (case hs | hf => kernel_rfl); (case hr | hF => kernel_rfl); (case hQ => exact fun _ _ _ h => h); (case H => first | exact .inr H ); (case hy => first | (apply yields_pure rfl; intro w; first | (go_simp; with_reducible rfl) )); (try simp only [Act.put, sA, sB, sC]); (apply anyJ_take 3 (oi := Oper.mk _ _ _ _ _ _) rfl); (case hs | hf => kernel_rfl); (case hr | hc | hF => kernel_rfl); (case hQ => exact fun _ _ _ h => h); (case H => first | exact H ); (case hy => (first | ((apply yields_load); (case hs => exact sc _ rfl); (case hw | hx => rfl); (case hm => (with_reducible repeat first | exact mH)); (case hv => rfl)) )); (try simp only [Act.put, sA, sB, sC]); (apply anyJ_takeP 4 (oi := Oper.mk _ _ _ _ _ _) rfl); (case hs | hf => kernel_rfl); (case hr | hF => kernel_rfl); (case hQ => exact fun _ _ _ h => h); (case H => first | exact .inr H ); (case hy => first | (apply yields_pure rfl; intro w; first | (go_simp; with_reducible rfl) )); (try simp only [Act.put, sA, sB, sC]); (apply anyJ_take 8 (oi := Oper.mk _ _ _ _ _ _) rfl); (case hs | hf => kernel_rfl); (case hr | hc | hF => kernel_rfl); (case hQ => exact fun _ _ _ h => h); (case H => first | exact H ); (case hy => (first | ((apply yields_load); (case hs => exact sc _ rfl); (case hw | hx => rfl); (case hm => (with_reducible repeat first | exact mH)); (case hv => rfl)) )); (try simp only [Act.put, sA, sB, sC]); (apply anyJ_one 9 (o := Oper.mk _ _ _ _ _ _)); (case hr => kernel_rfl); (case hi | hw => rfl); intro K hK; (first | (go_simp; (with_reducible apply sectors_k (n := y)); (case H => exact H); (case hN => rfl); (case hn => omega); clear H; (try clear W); intro W H)); (refine hK.out _ _ ?_ ?_); (· first | exact .inr H ); clear hK K; (try simp only [Act.put, sA, sB, sC]); (apply anyJ_takeP 10 (oi := Oper.mk _ _ _ _ _ _) rfl); (case hs | hf => kernel_rfl); (case hr | hF => kernel_rfl); (case hQ => exact fun _ _ _ h => h); (case H => first | exact .inr H ); (case hy => first | (apply yields_pure rfl; intro w; first | (go_simp; with_reducible rfl) )); (try simp only [Act.put, sA, sB, sC]); (apply anyJ_takeP 11 (oi := Oper.mk _ _ _ _ _ _) rfl); (case hs | hf => kernel_rfl); (case hr | hF => kernel_rfl); (case hQ => exact fun _ _ _ h => h); (case H => first | exact .inr H ); (case hy => first | (apply yields_pure rfl; intro w; first | (go_simp; with_reducible rfl) )); (try simp only [Act.put, sA, sB, sC]); (apply anyJ_takeP 12 (oi := Oper.mk _ _ _ _ _ _) rfl); (case hs | hf => kernel_rfl); (case hr | hF => kernel_rfl); (case hQ => exact fun _ _ _ h => h); (case H => first | exact .inr H ); (case hy => first | (apply yields_pure rfl; intro w; first | (go_simp; with_reducible rfl) )); (try simp only [Act.put, sA, sB, sC]); (apply anyJ_done (by kernel_rfl)))
  go_wp2_with (first | go_big_skip )
  exact HK.out _ H
set_option maxRecDepth 100000 in
set_option maxHeartbeats 1000000 in
theorem st4_k {x : Value} {y : Nat} (hy : y ≤ 256) (hs : secs y * 64 ≤ m) (G : Gives L0 fun w => Rd w 1 (some ⟨b, o, none⟩) m c (bvs l)) (H : Holds W L) (hm : Pull (blk p [.slice (some ⟨b, o, none⟩) m c, x, .int .i64 (y : Nat)] 177) L L0)
    (k : ∀ w', Holds w' (blk p [.slice (some ⟨b, o, none⟩) m c, x, .int .i64 (y : Nat)] 177 :: L0) → R (.returned (.bool (!((l.take (secs y * 64)).drop (18 + y)).any (· != 0)))) w') :
    Calls Tryz.prog 146 #[.pointer (some ⟨p, 0, none⟩)] W R := by
  have HK := Lib.hid k; clear k
  replace H := H.pull hm
  clear hm
  have hle := (G W H.tail).le
  have hs1 := secs_le y
  have hs2 := secs_lt y
  obtain ⟨A', hA⟩ : ∃ A' : Option Addr, A' = if c = 18 + y then some ⟨b, o, none⟩ else some ⟨b, o + (18 + y), none⟩ := ⟨_, rfl⟩
  have g : Gives L0 fun w => Rd w 1 A' (secs y * 64 - (18 + y)) (c - (18 + y)) (bvs ((l.take (secs y * 64)).drop (18 + y))) := G.imp fun w h => midA _ _ hA (by omega) (by omega) h
  have HA := Lib.hid hA
  clear hA
  generalize ((l.take (secs y * 64)).drop (18 + y)) = z at *
  have e1 := Lib.hid (wrapI (x := ((secs y : Nat) : Int) * 64) (by omega) (by omega))
  have e2 := Lib.hid (wrapI (x := (18 : Int) + (y : Int)) (by omega) (by omega))
  go_enter Tryz.func146, Tryz.ntmps146
  go_wp2_with (first | go_big_skip )
  ((refine wp_region_J [] H (by kernel_rfl) ?_); clear H; (try clear W); intro W H; (apply anyJ_takeP 0 (oi := Oper.mk _ _ _ _ _ _) rfl); (case hs | hf => kernel_rfl); (case hr | hF => kernel_rfl); (case hQ => exact fun _ _ _ h => h); (case H => first | exact .inr H ); (case hy => first | (apply yields_pure rfl; intro w; first | (go_simp; with_reducible rfl) )); (try simp only [Act.put, sA, sB, sC]); (apply anyJ_takeP 1 (oi := Oper.mk _ _ _ _ _ _) rfl); (case hs | hf => kernel_rfl); (case hr | hF => kernel_rfl); (case hQ => exact fun _ _ _ h => h); (case H => first | exact .inr H ); (case hy => first | (apply yields_pure rfl; intro w; first | (go_simp; with_reducible rfl) )); (try simp only [Act.put, sA, sB, sC]); (apply anyJ_takeP 2 (oi := Oper.mk _ _ _ _ _ _) rfl); (case hs | hf => kernel_rfl); (case hr | hF => kernel_rfl); (case hQ => exact fun _ _ _ h => h); (case H => first | exact .inr H ); (case hy => first | (apply yields_pure rfl; intro w; first | (go_simp; with_reducible rfl) )); (try simp only [Act.put, sA, sB, sC]); (apply anyJ_takeP 4 (oi := Oper.mk _ _ _ _ _ _) rfl); (case hs | hf => kernel_rfl); (case hr | hF => kernel_rfl); (case hQ => exact fun _ _ _ h => h); (case H => first | exact .inr H ); (case hy => first | (apply yields_pure rfl; intro w; first | (go_simp; with_reducible rfl) )); (try simp only [Act.put, sA, sB, sC]); (apply anyJ_takeP 5 (oi := Oper.mk _ _ _ _ _ _) rfl); (case hs | hf => kernel_rfl); (case hr | hF => kernel_rfl); (case hQ => exact fun _ _ _ h => h); (case H => first | exact .inr H ); (case hy => first | (apply yields_pure rfl; intro w; first | (go_simp; with_reducible rfl) )); (try simp only [Act.put, sA, sB, sC]); (apply anyJ_takeP 6 (oi := Oper.mk _ _ _ _ _ _) rfl); (case hs | hf => kernel_rfl); (case hr | hF => kernel_rfl); (case hQ => exact fun _ _ _ h => h); (case H => first | exact .inr H ); (case hy => first | (apply yields_pure rfl; intro w; first | (go_simp; with_reducible rfl) )); (try simp only [Act.put, sA, sB, sC]); (apply anyJ_takeP 9 (oi := Oper.mk _ _ _ _ _ _) rfl); (case hs | hf => kernel_rfl); (case hr | hF => kernel_rfl); (case hQ => exact fun _ _ _ h => h); (case H => first | exact .inr H ); (case hy => first | (apply yields_pure rfl; intro w; first | (go_simp; with_reducible rfl) )); (try simp only [Act.put, sA, sB, sC]); (apply anyJ_takeP 10 (oi := Oper.mk _ _ _ _ _ _) rfl); (case hs | hf => kernel_rfl); (case hr | hF => kernel_rfl); (case hQ => exact fun _ _ _ h => h); (case H => first | exact .inr H ); (case hy => first | (apply yields_pure rfl; intro w; first | (go_simp; with_reducible rfl) )); (try simp only [Act.put, sA, sB, sC]); (apply anyJ_takeP 11 (oi := Oper.mk _ _ _ _ _ _) rfl); (case hs | hf => kernel_rfl); (case hr | hF => kernel_rfl); (case hQ => exact fun _ _ _ h => h); (case H => first | exact .inr H ); (case hy => first | (apply yields_pure rfl; intro w; first | (go_simp; with_reducible rfl) )); (try simp only [Act.put, sA, sB, sC]); (apply anyJ_take 3 (oi := Oper.mk _ _ _ _ _ _) rfl); (case hs | hf => kernel_rfl); (case hr | hc | hF => kernel_rfl); (case hQ => exact fun _ _ _ h => h); (case H => first | exact H ); (case hy => (first | ((apply yields_load); (case hs => exact sc _ rfl); (case hw | hx => rfl); (case hm => (with_reducible repeat first | exact mH)); (case hv => rfl)) )); (try simp only [Act.put, sA, sB, sC]); (apply anyJ_take 7 (oi := Oper.mk _ _ _ _ _ _) rfl); (case hs | hf => kernel_rfl); (case hr | hc | hF => kernel_rfl); (case hQ => exact fun _ _ _ h => h); (case H => first | exact H ); (case hy => (first | ((apply yields_load); (case hs => exact sc _ rfl); (case hw | hx => rfl); (case hm => (with_reducible repeat first | exact mH)); (case hv => rfl)) )); (try simp only [Act.put, sA, sB, sC]); (apply anyJ_takeP 8 (oi := Oper.mk _ _ _ _ _ _) rfl); (case hs | hf => kernel_rfl); (case hr | hF => kernel_rfl); (case hQ => exact fun _ _ _ h => h); (case H => first | exact .inr H ); (case hy => first | (apply yields_pure rfl; intro w; first | (go_simp; with_reducible rfl) )); (try simp only [Act.put, sA, sB, sC]); (apply anyJ_take 12 (oi := Oper.mk _ _ _ _ _ _) rfl); (case hs | hf => kernel_rfl); (case hr | hc | hF => kernel_rfl); (case hQ => exact fun _ _ _ h => h); (case H => first | exact H ); (case hy => (first | ((apply yields_load); (case hs => exact sc _ rfl); (case hw | hx => rfl); (case hm => (with_reducible repeat first | exact mH)); (case hv => rfl)) )); (try simp only [Act.put, sA, sB, sC]); (apply anyJ_one 13 (o := Oper.mk _ _ _ _ _ _)); (case hr => kernel_rfl); (case hi | hw => rfl); intro K hK; (first | (first | (go_simp; (with_reducible apply sectors_k (n := y)); (case H => exact H); (case hN => rfl); (case hn => omega); clear H; (try clear W); intro W H) )); (refine hK.out _ _ ?_ ?_); (· first | exact .inr H ); clear hK K; (try simp only [Act.put, sA, sB, sC]); (apply anyJ_takeP 14 (oi := Oper.mk _ _ _ _ _ _) rfl); (case hs | hf => kernel_rfl); (case hr | hF => kernel_rfl); (case hQ => exact fun _ _ _ h => h); (case H => first | exact .inr H ); (case hy => first | (apply yields_pure rfl; intro w; first | (go_simp; with_reducible rfl) )); (try simp only [Act.put, sA, sB, sC]); (apply anyJ_takeP 15 (oi := Oper.mk _ _ _ _ _ _) rfl); (case hs | hf => kernel_rfl); (case hr | hF => kernel_rfl); (case hQ => exact fun _ _ _ h => h); (case H => first | exact .inr H ); (case hy => first | ((apply yields_slice2 (q := 18 + y) (r := secs y * 64)); (case hx | hs => rfl); (case ht | hw => rfl); (case hA => exact HA.out); (case hl => first | (rw [e2.out]; omega) ); (case hh => first | (rw [e1.out]; omega) ); (case h1 | h2 => omega)) ); (try simp only [Act.put, sA, sB, sC]); (apply anyJ_one 16 (o := Oper.mk _ _ _ _ _ _)); (case hr => kernel_rfl); (case hi | hw => rfl); intro K hK; (first | (first | (go_simp; (with_reducible apply contains_k (l := z)); (case H => exact H); (case G => exact g.cons); (case hn => omega); clear H; (try clear W); intro W H))); (refine hK.out _ _ ?_ ?_); (· first | exact .inr H ); clear hK K; (try simp only [Act.put, sA, sB, sC]); (apply anyJ_takeP 17 (oi := Oper.mk _ _ _ _ _ _) rfl); (case hs | hf => kernel_rfl); (case hr | hF => kernel_rfl); (case hQ => exact fun _ _ _ h => h); (case H => first | exact .inr H ); (case hy => first | (apply yields_pure rfl; intro w; first | (go_simp; with_reducible rfl) )); (try simp only [Act.put, sA, sB, sC]); (apply anyJ_takeP 18 (oi := Oper.mk _ _ _ _ _ _) rfl); (case hs | hf => kernel_rfl); (case hr | hF => kernel_rfl); (case hQ => exact fun _ _ _ h => h); (case H => first | exact .inr H ); (case hy => first | (apply yields_pure rfl; intro w; first | (go_simp; with_reducible rfl) )); (try simp only [Act.put, sA, sB, sC]); (apply anyJ_done (by kernel_rfl)))
  go_wp2_with (first | go_big_skip )
  exact HK.out _ H
end
end Go.Proofs.YtdnioigcgggdbaaGreatDoor
