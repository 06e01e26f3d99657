/-
  frames: the last step of a check.
  errors.Is where both errors are numbers of type api.Errno.
  frames: check.
  frames: Get.
-/
import Derived.Test.YtdnioigcgggdbaaGreatDoorFr9
import Derived.Test.YtdnioigcgggdbaaGreatDoorMaa
import Derived.Test.YtdnioigcgggdbaaGreatDoorMab
import Derived.Lib.IfaceEq
import Derived.LaidEql
import Derived.Stop.Asserts
import Derived.WalkKit
import Derived.RowKitTokens
set_option linter.unusedVariables false
set_option linter.unusedSimpArgs false
namespace Go.Proofs.YtdnioigcgggdbaaGreatDoor
open Go.RowKit

section
variable {W : World} {L L' L0 : List Ent} {R : Ending → World → Prop} {A : Option Addr} {b o m c p : Nat} {l : List UInt8}
theorem get4 (h : 64 ≤ l.length) : getR (l.drop 14) 4 = (ofBe ((l.drop 14).take 4), 0) := by
  unfold getR
  rw [if_neg (by decide), if_neg (by rw [List.length_drop]; omega)]
  rfl
set_option maxRecDepth 100000 in
set_option maxHeartbeats 1000000 in
theorem st5_k {x : Value} {y : Nat} (h64 : 64 ≤ m) (hy : y ≤ 256) (hs : secs y * 64 ≤ m) (G : Gives L0 fun w => Rd w 1 (some ⟨b, o, none⟩) m c (bvs l)) (H : Holds W L) (hm : Pull (blk p [.slice (some ⟨b, o, none⟩) m c, x, .int .i64 (y : Nat)] 177) L L0)
    (k : ∀ w', Holds w' (blk p [.slice (some ⟨b, o, none⟩) m c, x, .int .i64 (y : Nat)] 177 :: L0) → R (.returned (.bool (decide (onF (onF 1 ((l.drop 4).take 10)) ((l.drop 18).take y) = ofBe ((l.drop 14).take 4))))) w') :
    Calls Tryz.prog 148 #[.pointer (some ⟨p, 0, none⟩)] W R := by
  have HK := Lib.hid k; clear k
  replace H := H.pull hm
  clear hm
  have hle := (G W H.tail).le
  have hl := (G W H.tail).blen
  have hs1 := secs_le y
  have hs2 := secs_lt y
  have e4 := get4 (l := l) (by omega)
  have g14 : Gives L0 fun w => Rd w 1 (some ⟨b, o + 14, none⟩) (m - 14) (c - 14) (bvs (l.drop 14)) := G.imp fun w h => h.tailB 14 (by omega)
  have g4 : Gives L0 fun w => Rd w 1 (some ⟨b, o + 4, none⟩) 10 (c - 4) (bvs ((l.drop 4).take 10)) := G.imp fun w h => by
    have := h.midB 4 14 (by omega) (by omega) (by omega)
    exact this
  have g18 : Gives L0 fun w => Rd w 1 (some ⟨b, o + 18, none⟩) y (c - 18) (bvs ((l.drop 18).take y)) := G.imp fun w h => by
    have := h.midB 18 (18 + y) (by omega) (by omega) (by omega)
    rw [show 18 + y - 18 = y by omega] at this
    exact this
  have e1 := Lib.hid (wrapI (x := (18 : Int) + (y : Int)) (by omega) (by omega))
  have hon := onF_lt (onF 1 ((l.drop 4).take 10)) ((l.drop 18).take y)
  have Hn := Lib.hid (onF_lt 1 ((l.drop 4).take 10))
  have hcv := Lib.hid (wrap_u64_small (x := ((onF (onF 1 ((l.drop 4).take 10)) ((l.drop 18).take y) : Nat) : Int)) (by omega) (by omega))
  clear hl hon
  generalize ((l.drop 4).take 10) = z4 at *
  generalize ((l.drop 18).take y) = z18 at *
  generalize ofBe ((l.drop 14).take 4) = n4 at *
  have hd : decide (onF (onF 1 z4) z18 = n4) = (IntKind.u64.wrap ((onF (onF 1 z4) z18 : Nat) : Int) == (n4 : Int)) := by
    rw [hcv.out, Bool.eq_iff_iff]
    simp only [decide_eq_true_eq, beq_iff_eq]
    omega
  rw [hd] at HK
  clear hd
  go_enter Tryz.func148, Tryz.ntmps148
  go_wp2_with (first | ((with_reducible apply wpl_load H); (case hs => exact sc _ rfl); (case hw | hx => rfl); (case hm => (with_reducible repeat first | exact mH)); (case hv => rfl)) | ((with_reducible apply nget_v e4 g14.cons); (case H => exact H); clear H; (try clear W); intro W H))
  ((refine wp_region_J [] H (by kernel_rfl) ?_); clear H; (try clear W); intro W H; (apply anyJ_takeP 0 (oi := Oper.mk _ _ _ _ _ _) rfl); (case hs | hf => kernel_rfl); (case hr | hF => kernel_rfl); (case hQ => exact fun _ _ _ h => h); (case H => first | exact .inr H ); (case hy => first | (apply yields_pure rfl; intro w; first | (go_simp; with_reducible rfl) )); (try simp only [Act.put, sA, sB, sC]); (apply anyJ_takeP 1 (oi := Oper.mk _ _ _ _ _ _) rfl); (case hs | hf => kernel_rfl); (case hr | hF => kernel_rfl); (case hQ => exact fun _ _ _ h => h); (case H => first | exact .inr H ); (case hy => first | (apply yields_pure rfl; intro w; first | (go_simp; with_reducible rfl) )); (try simp only [Act.put, sA, sB, sC]); (apply anyJ_takeP 2 (oi := Oper.mk _ _ _ _ _ _) rfl); (case hs | hf => kernel_rfl); (case hr | hF => kernel_rfl); (case hQ => exact fun _ _ _ h => h); (case H => first | exact .inr H ); (case hy => first | (apply yields_pure rfl; intro w; first | (go_simp; with_reducible rfl) )); (try simp only [Act.put, sA, sB, sC]); (apply anyJ_takeP 6 (oi := Oper.mk _ _ _ _ _ _) rfl); (case hs | hf => kernel_rfl); (case hr | hF => kernel_rfl); (case hQ => exact fun _ _ _ h => h); (case H => first | exact .inr H ); (case hy => first | (apply yields_pure rfl; intro w; first | (go_simp; with_reducible rfl) )); (try simp only [Act.put, sA, sB, sC]); (apply anyJ_takeP 7 (oi := Oper.mk _ _ _ _ _ _) rfl); (case hs | hf => kernel_rfl); (case hr | hF => kernel_rfl); (case hQ => exact fun _ _ _ h => h); (case H => first | exact .inr H ); (case hy => first | (apply yields_pure rfl; intro w; first | (go_simp; with_reducible rfl) )); (try simp only [Act.put, sA, sB, sC]); (apply anyJ_takeP 8 (oi := Oper.mk _ _ _ _ _ _) rfl); (case hs | hf => kernel_rfl); (case hr | hF => kernel_rfl); (case hQ => exact fun _ _ _ h => h); (case H => first | exact .inr H ); (case hy => first | (apply yields_pure rfl; intro w; first | (go_simp; with_reducible rfl) )); (try simp only [Act.put, sA, sB, sC]); (apply anyJ_takeP 10 (oi := Oper.mk _ _ _ _ _ _) rfl); (case hs | hf => kernel_rfl); (case hr | hF => kernel_rfl); (case hQ => exact fun _ _ _ h => h); (case H => first | exact .inr H ); (case hy => first | (apply yields_pure rfl; intro w; first | (go_simp; with_reducible rfl) )); (try simp only [Act.put, sA, sB, sC]); (apply anyJ_takeP 11 (oi := Oper.mk _ _ _ _ _ _) rfl); (case hs | hf => kernel_rfl); (case hr | hF => kernel_rfl); (case hQ => exact fun _ _ _ h => h); (case H => first | exact .inr H ); (case hy => first | (apply yields_pure rfl; intro w; first | (go_simp; with_reducible rfl) )); (try simp only [Act.put, sA, sB, sC]); (apply anyJ_takeP 12 (oi := Oper.mk _ _ _ _ _ _) rfl); (case hs | hf => kernel_rfl); (case hr | hF => kernel_rfl); (case hQ => exact fun _ _ _ h => h); (case H => first | exact .inr H ); (case hy => first | (apply yields_pure rfl; intro w; first | (go_simp; with_reducible rfl) )); (try simp only [Act.put, sA, sB, sC]); (apply anyJ_takeP 18 (oi := Oper.mk _ _ _ _ _ _) rfl); (case hs | hf => kernel_rfl); (case hr | hF => kernel_rfl); (case hQ => exact fun _ _ _ h => h); (case H => first | exact .inr H ); (case hy => first | (apply yields_pure rfl; intro w; first | (go_simp; with_reducible rfl) )); (try simp only [Act.put, sA, sB, sC]); (apply anyJ_take 3 (oi := Oper.mk _ _ _ _ _ _) rfl); (case hs | hf => kernel_rfl); (case hr | hc | hF => kernel_rfl); (case hQ => exact fun _ _ _ h => h); (case H => first | exact H ); (case hy => (first | ((apply yields_load); (case hs => exact sc _ rfl); (case hw | hx => rfl); (case hm => (with_reducible repeat first | exact mH)); (case hv => rfl)) )); (try simp only [Act.put, sA, sB, sC]); (apply anyJ_takeP 4 (oi := Oper.mk _ _ _ _ _ _) rfl); (case hs | hf => kernel_rfl); (case hr | hF => kernel_rfl); (case hQ => exact fun _ _ _ h => h); (case H => first | exact .inr H ); (case hy => first | (first | ((apply yields_slice2 (q := 4) (r := 14) (A' := some ⟨b, o + 4, none⟩)); (case hx | hs => rfl); (case ht | hw => rfl); (case hA => rw [if_neg (by omega)]); (case hl | hh => rfl); (case h1 | h2 => omega)) ) ); (try simp only [Act.put, sA, sB, sC]); (apply anyJ_take 9 (oi := Oper.mk _ _ _ _ _ _) rfl); (case hs | hf => kernel_rfl); (case hr | hc | hF => kernel_rfl); (case hQ => exact fun _ _ _ h => h); (case H => first | exact H ); (case hy => (first | ((apply yields_load); (case hs => exact sc _ rfl); (case hw | hx => rfl); (case hm => (with_reducible repeat first | exact mH)); (case hv => rfl)) )); (try simp only [Act.put, sA, sB, sC]); (apply anyJ_take 13 (oi := Oper.mk _ _ _ _ _ _) rfl); (case hs | hf => kernel_rfl); (case hr | hc | hF => kernel_rfl); (case hQ => exact fun _ _ _ h => h); (case H => first | exact H ); (case hy => (first | ((apply yields_load); (case hs => exact sc _ rfl); (case hw | hx => rfl); (case hm => (with_reducible repeat first | exact mH)); (case hv => rfl)) )); (try simp only [Act.put, sA, sB, sC]); (apply anyJ_takeP 14 (oi := Oper.mk _ _ _ _ _ _) rfl); (case hs | hf => kernel_rfl); (case hr | hF => kernel_rfl); (case hQ => exact fun _ _ _ h => h); (case H => first | exact .inr H ); (case hy => first | (apply yields_pure rfl; intro w; first | (go_simp; with_reducible rfl) )); (try simp only [Act.put, sA, sB, sC]); (apply anyJ_takeP 15 (oi := Oper.mk _ _ _ _ _ _) rfl); (case hs | hf => kernel_rfl); (case hr | hF => kernel_rfl); (case hQ => exact fun _ _ _ h => h); (case H => first | exact .inr H ); (case hy => first | (first | ((apply yields_slice2 (q := 18) (r := 18 + y) (A' := some ⟨b, o + 18, none⟩)); (case hx | hs => rfl); (case ht | hw => rfl); (case hA => rw [if_neg (by omega)]); (case hl => rfl); (case hh => first | (rw [e1.out]; omega) ); (case h1 | h2 => omega))) ); (try simp only [Act.put, sA, sB, sC]); (apply anyJ_one 5 (o := Oper.mk _ _ _ _ _ _)); (case hr => kernel_rfl); (case hi | hw => rfl); intro K hK; (first | (first | (go_simp; (with_reducible apply sumof_k (l := z4)); (case H => exact H); (case G => exact g4.cons); clear H; (try clear W); intro W H) )); (refine hK.out _ _ ?_ ?_); (· first | exact .inr H ); clear hK K; (try simp only [Act.put, sA, sB, sC]); (apply anyJ_one 16 (o := Oper.mk _ _ _ _ _ _)); (case hr => kernel_rfl); (case hi | hw => rfl); intro K hK; (first | (first | (go_simp; (with_reducible apply on_k (s := onF 1 z4) (l := z18)); (case H => exact H); (case G => exact g18.cons); (case hN => rfl); (case hs => exact Hn.out); clear H; (try clear W); intro W H))); (refine hK.out _ _ ?_ ?_); (· first | exact .inr H ); clear hK K; (try simp only [Act.put, sA, sB, sC]); (apply anyJ_takeP 17 (oi := Oper.mk _ _ _ _ _ _) rfl); (case hs | hf => kernel_rfl); (case hr | hF => kernel_rfl); (case hQ => exact fun _ _ _ h => h); (case H => first | exact .inr H ); (case hy => first | (apply yields_pure rfl; intro w; first | (go_simp; with_reducible rfl) )); (try simp only [Act.put, sA, sB, sC]); (apply anyJ_takeP 19 (oi := Oper.mk _ _ _ _ _ _) rfl); (case hs | hf => kernel_rfl); (case hr | hF => kernel_rfl); (case hQ => exact fun _ _ _ h => h); (case H => first | exact .inr H ); (case hy => first | (apply yields_pure rfl; intro w; first | (go_simp; with_reducible rfl) )); (try simp only [Act.put, sA, sB, sC]); (apply anyJ_takeP 20 (oi := Oper.mk _ _ _ _ _ _) rfl); (case hs | hf => kernel_rfl); (case hr | hF => kernel_rfl); (case hQ => exact fun _ _ _ h => h); (case H => first | exact .inr H ); (case hy => first | (apply yields_pure rfl; intro w; first | (go_simp; with_reducible rfl) )); (try simp only [Act.put, sA, sB, sC]); (apply anyJ_done (by kernel_rfl)))
  go_wp2_with (first | go_big_skip )
  exact HK.out _ H
end
end Go.Proofs.YtdnioigcgggdbaaGreatDoor
namespace Go.Proofs.YtdnioigcgggdbaaGreatDoor
open Go.RowKit Go.Extern.Stop Go.Stop Go.Extern

/-- how many package-level variables the program has: where the types' handles lie. -/
noncomputable def gsz : Nat := Tryz.prog.globals.size
theorem is_typeOf (v : Value) (w : World) : (Extern.ReflectliteType.typeOf #[.iface 27 v]).run Tryz.prog w = .ok (.iface 207 (.agg #[.pointer (some ⟨gsz, 27, none⟩)])) w := by kernel_rfl
def cmpF : TypeId → Sem Value := fun t => do Extern.Rtype.noPackHeld "Comparable" t; pure (.bool (← typeInfo t).comparable)
theorem is_comparable (w : World) : (Extern.ReflectliteType.method cmpF #[.agg #[.pointer (some ⟨gsz, 27, none⟩)]]).run Tryz.prog w = .ok (.bool true) w := by kernel_rfl
theorem is_method (f : Nat) (v : Value) (w : World) : (Go.method (f + 1) 207 v "Comparable").run Tryz.prog w = .ok (181, v) w := by kernel_rfl
theorem is_comp : (Tryz.prog.info? 27).map (·.comparable) = some true := by kernel_rfl
theorem is_noIs (v : Value) (xT : TypeId) (w : World) : (Instr.typeAssert (.iface 27 v) xT 209 true).run Tryz.prog w = .ok (.tuple #[.nilIface, .bool false]) w := run_typeAssert_lacksB Tryz.underlying209 (by kernel_rfl) (by kernel_rfl) v xT w
theorem is_noUnwrap (v : Value) (xT : TypeId) (w : World) : (Instr.typeAssert (.iface 27 v) xT 212 true).run Tryz.prog w = .ok (.tuple #[.nilIface, .bool false]) w := run_typeAssert_lacksB Tryz.underlying212 (by kernel_rfl) (by kernel_rfl) v xT w
theorem is_noUnwraps (v : Value) (xT : TypeId) (w : World) : (Instr.typeAssert (.iface 27 v) xT 213 true).run Tryz.prog w = .ok (.tuple #[.nilIface, .bool false]) w := run_typeAssert_lacksB Tryz.underlying213 (by kernel_rfl) (by kernel_rfl) v xT w
set_option maxRecDepth 100000 in
set_option maxHeartbeats 1000000 in
theorem is_nil_e (b : Int) (w : World) : Calls Tryz.prog 127 #[.nilIface, .iface 27 (.int .i64 b)] w fun e w' => e = .returned (.bool false) ∧ w' = w := by
  have hn := run_eql_iface_nil_left (P := Tryz.prog) w 27 (.int .i64 b) Tryz.underlying179
  go_enter Tryz.func127, Tryz.ntmps127
  go_wp2
  go_ret
  exact ⟨rfl, rfl⟩
set_option maxRecDepth 100000 in
set_option maxHeartbeats 1000000 in
theorem eis_e (a b : Int) (w : World) : Calls Tryz.prog 138 #[.iface 27 (.int .i64 a), .iface 27 (.int .i64 b), .bool true] w fun e w' => e = .returned (.bool (a == b)) ∧ w' = w := by
  have heq := fun (w : World) => Lib.run_eql_iface_int (P := Tryz.prog) (k := .i64) w a b Tryz.underlying179 is_comp Tryz.underlying27
  have nE := is_noIs
  have uE := is_noUnwrap
  have vE := is_noUnwraps
  by_cases h : a = b
  · subst h
    rw [beq_self_eq_true] at heq ⊢
    go_enter Tryz.func138, Tryz.ntmps138
    go_wp2
    refine wp_loop_rounds 1 ?_
    rw [rounds_succ]
    go_wp2
    go_ret
    exact ⟨rfl, rfl⟩
  · rw [beq_eq_false_iff_ne.2 h] at heq ⊢
    go_enter Tryz.func138, Tryz.ntmps138
    go_wp2
    refine wp_loop_rounds 1 ?_
    rw [rounds_succ]
    go_wp2
    go_ret
    exact ⟨rfl, rfl⟩
set_option maxRecDepth 100000 in
set_option maxHeartbeats 1000000 in
theorem is_e (a b : Int) (w : World) : Calls Tryz.prog 127 #[.iface 27 (.int .i64 a), .iface 27 (.int .i64 b)] w fun e w' => e = .returned (.bool (a == b)) ∧ w' = w := by
  have h8 := @run_callFunc_extern Tryz.prog 137 _ Extern.ReflectliteType.typeOf Tryz.func137 (by kernel_rfl) (by kernel_rfl) (by kernel_rfl) (by kernel_rfl)
  have h32 := @run_callFunc_extern Tryz.prog 181 _ (Extern.ReflectliteType.method cmpF) Tryz.func181 (by kernel_rfl) (by kernel_rfl) (by kernel_rfl) (by kernel_rfl)
  have tT := is_typeOf
  have cT := is_comparable
  have mR := is_method
  go_enter Tryz.func127, Tryz.ntmps127
  go_wp2_with (go_at_call 138; refine (eis_e a b _).mono ?_; rintro e w' ⟨rfl, rfl⟩)
  go_ret
  exact ⟨rfl, rfl⟩
/-- what an errno is, as an error. -/
def errV (e : Int) : Value := if e = 0 then .nilIface else .iface 27 (.int .i64 e)
section
variable {W : World} {L L' L0 : List Ent} {R : Ending → World → Prop}
theorem is_k {a b : Int} (hb : b ≠ 0) (H : Holds W L) (k : ∀ w', Holds w' L → R (.returned (.bool (a == b))) w') : Calls Tryz.prog 127 #[errV a, .iface 27 (.int .i64 b)] W R := by
  unfold errV
  by_cases h : a = 0
  · rw [if_pos h]
    rw [show (a == b) = false from beq_eq_false_iff_ne.2 (by omega)] at k
    exact (is_nil_e b W).mono fun e w' h => by obtain ⟨rfl, rfl⟩ := h; exact k _ H
  · rw [if_neg h]
    exact (is_e a b W).mono fun e w' h => by obtain ⟨rfl, rfl⟩ := h; exact k _ H
end
end Go.Proofs.YtdnioigcgggdbaaGreatDoor
namespace Go.Proofs.YtdnioigcgggdbaaGreatDoor
open Go.RowKit

theorem sc_fn : Scalar Tryz.prog 198 := by unfold Scalar; kernel_rfl
section
variable {W : World} {L L' L0 : List Ent} {R : Ending → World → Prop} {A : Option Addr} {b o m c p : Nat} {l : List UInt8}
set_option maxRecDepth 100000 in
set_option maxHeartbeats 1000000 in
theorem steps_k (H : Holds W L) (k : ∀ q w', Holds w' (blk q [.func (.func 142) #[] #[], .iface 27 (.int .i64 5), .func (.func 143) #[] #[], .iface 27 (.int .i64 4), .func (.func 145) #[] #[], .iface 27 (.int .i64 5), .func (.func 146) #[] #[], .iface 27 (.int .i64 4), .func (.func 148) #[] #[], .iface 27 (.int .i64 6)] 200 :: L) → R (.returned (.slice (some ⟨q, 0, none⟩) 5 5)) w') :
    Calls Tryz.prog 136 #[] W R := by
  have HK := Lib.hid k; clear k
  go_enter Tryz.func136, Tryz.ntmps136
  go_wp2_with (first | go_big_skip )
  exact HK.out _ _ (H.alloc _ _)
set_option maxRecDepth 100000 in
set_option maxHeartbeats 2000000 in
theorem check_short (hm64 : m < 64) (H : Holds W L) (hm : Pull (blk p [.slice A m c, .int .u64 0, .int .i64 0] 177) L L0)
    (k : ∀ w', Holds w' (blk p [.slice A m c, .int .u64 0, .int .i64 0] 177 :: L0) → R (.returned (.iface 27 (.int .i64 5))) w') :
    Calls Tryz.prog 126 #[.pointer (some ⟨p, 0, none⟩)] W R := by
  have HK := Lib.hid k; clear k
  replace H := H.pull hm
  clear hm
  have D1 := Lib.hid (decide_eq_false (show ¬ 64 ≤ m by omega))
  go_enter Tryz.func126, Tryz.ntmps126
  go_wp2_with (first | ((with_reducible apply steps_k H); clear H; (try clear W); intro qs W H))
  refine wp_loop_rounds 1 ?_
  rw [rounds_succ]
  go_wp2_with (first | ((with_reducible refine wpl_absorb H ?_); clear H; (first  | generalize W.heap.size = q0); (try clear W); intro W H) | ((with_reducible apply wpl_load H); (case hs => exact sc _ rfl); (case hw | hx => rfl); (case hm => (with_reducible repeat first | exact mH | apply mT)); (case hv => rfl)) | ((with_reducible apply wpl_loadA H); (case hs => exact ag _ _ rfl); (case hw | hx => rfl); (case hm => (with_reducible repeat first | exact mH)); (case hv | hl => rfl); (try simp only [List.drop_zero, List.drop_succ_cons, List.take_succ_cons, List.take_zero, List.take_nil])) | ((with_reducible apply wpl_store H); (case hw | hx | hy => rfl); (case hm => (with_reducible repeat first | exact Upd.here)); (case hs => exact sz_ag _ _ rfl); (case h1 => rfl); (case hk => exact Nat.le_of_ble_eq_true rfl); clear H; (try clear W); intro W H; first | simp only [setL, List.set_cons_zero, List.set_cons_succ] at H) | ((with_reducible apply wpl_load H); (case hs => exact sc_fn); (case hw | hx => rfl); (case hm => (with_reducible repeat first | exact mH)); (case hv => rfl)) | ((with_reducible apply st1_k H); (case hm => (with_reducible repeat first | exact Pull.here | apply Pull.there)); clear H; (try clear W); intro W H; rw [D1.out]))
  exact HK.out _ (Reord.use H (by ((repeat (with_reducible apply Reord.cons; (case p => (with_reducible repeat first | exact Pull.here)))); repeat (first | with_reducible exact Reord.rest | with_reducible apply Reord.drop))))
theorem errV_n {e : Nat} (h : e ≠ 0) : errV ((e : Nat) : Int) = .iface 27 (.int .i64 ((e : Nat) : Int)) := by unfold errV; rw [if_neg (by omega)]
set_option maxRecDepth 100000 in
set_option maxHeartbeats 4000000 in
theorem check_long (h64 : 64 ≤ m) (G : Gives L0 fun w => Rd w 1 (some ⟨b, o, none⟩) m c (bvs l)) (H : Holds W L) (hm : Pull (blk p [.slice (some ⟨b, o, none⟩) m c, .int .u64 0, .int .i64 0] 177) L L0)
    (k : ∀ (e : Nat) w', e = fErr l → Holds w' (blk p [.slice (some ⟨b, o, none⟩) m c, .int .u64 (fNum l : Nat), .int .i64 (fMany l : Nat)] 177 :: L0) → R (.returned (errV (e : Nat))) w') :
    Calls Tryz.prog 126 #[.pointer (some ⟨p, 0, none⟩)] W R := by
  replace H := H.pull hm
  clear hm
  have hl := Lib.hid (G W H.tail).blen
  have HG := Lib.hid G
  have HK := Lib.hid k; clear k
  have hmany := Lib.hid (fMany_lt l)
  have D1 := Lib.hid (decide_eq_true h64)
  go_enter Tryz.func126, Tryz.ntmps126
  go_wp2_with (first | ((with_reducible apply steps_k H); clear H; (try clear W); intro qs W H))
  refine wp_loop_rounds 6 ?_
  rw [rounds_succ]
  go_wp2_with (first | ((with_reducible refine wpl_absorb H ?_); clear H; (first  | generalize W.heap.size = q0); (try clear W); intro W H) | ((with_reducible apply wpl_loadA H); (case hs => exact ag _ _ rfl); (case hw | hx => rfl); (case hm => (with_reducible repeat first | exact mH)); (case hv | hl => rfl); (try simp only [List.drop_zero, List.drop_succ_cons, List.take_succ_cons, List.take_zero, List.take_nil])) | ((with_reducible apply wpl_store H); (case hw | hx | hy => rfl); (case hm => (with_reducible repeat first | exact Upd.here)); (case hs => exact sz_ag _ _ rfl); (case h1 => rfl); (case hk => exact Nat.le_of_ble_eq_true rfl); clear H; (try clear W); intro W H; first | simp only [setL, List.set_cons_zero, List.set_cons_succ] at H) | ((with_reducible apply wpl_load H); (case hs => exact sc_fn); (case hw | hx => rfl); (case hm => (with_reducible repeat first | exact mH)); (case hv => rfl)) | ((with_reducible apply st1_k H); (case hm => (with_reducible repeat first | exact Pull.here | apply Pull.there)); clear H; (try clear W); intro W H; rw [D1.out]))
  rw [rounds_succ]
  by_cases h2 : l.take 4 = recM ∧ fMany l ≤ 256
  · have D2 := Lib.hid (decide_eq_true h2)
    have H2 := Lib.hid h2
    clear h2
    go_wp2_with (first | ((with_reducible refine wpl_absorb H ?_); clear H; (first  | generalize W.heap.size = q0); (try clear W); intro W H) | ((with_reducible apply wpl_loadA H); (case hs => exact ag _ _ rfl); (case hw | hx => rfl); (case hm => (with_reducible repeat first | exact mH | apply mT)); (case hv | hl => rfl); (try simp only [List.drop_zero, List.drop_succ_cons, List.take_succ_cons, List.take_zero, List.take_nil])) | ((with_reducible apply wpl_store H); (case hw | hx | hy => rfl); (case hm => (with_reducible repeat first | exact Upd.here)); (case hs => exact sz_ag _ _ rfl); (case h1 => rfl); (case hk => exact Nat.le_of_ble_eq_true rfl); clear H; (try clear W); intro W H; first | simp only [setL, List.set_cons_zero, List.set_cons_succ] at H) | ((with_reducible apply wpl_load H); (case hs => exact sc_fn); (case hw | hx => rfl); (case hm => (with_reducible repeat first | exact mH)); (case hv => rfl)) | ((with_reducible apply st2_k (l := l) h64); (case H => exact H); (case hm => (with_reducible repeat first | exact Pull.here | apply Pull.there)); (case G => (repeat (first | exact HG.out | with_reducible apply Gives.cons))); clear H; (try clear W); intro W H; rw [D2.out]))
    rw [rounds_succ]
    by_cases h3 : secs (fMany l) * 64 ≤ m
    · have D3 := Lib.hid (decide_eq_true h3)
      have H3 := Lib.hid h3
      clear h3
      go_wp2_with (first | ((with_reducible refine wpl_absorb H ?_); clear H; (first  | generalize W.heap.size = q0); (try clear W); intro W H) | ((with_reducible apply wpl_loadA H); (case hs => exact ag _ _ rfl); (case hw | hx => rfl); (case hm => (with_reducible repeat first | exact mH | apply mT)); (case hv | hl => rfl); (try simp only [List.drop_zero, List.drop_succ_cons, List.take_succ_cons, List.take_zero, List.take_nil])) | ((with_reducible apply wpl_store H); (case hw | hx | hy => rfl); (case hm => (with_reducible repeat first | exact Upd.here)); (case hs => exact sz_ag _ _ rfl); (case h1 => rfl); (case hk => exact Nat.le_of_ble_eq_true rfl); clear H; (try clear W); intro W H; first | simp only [setL, List.set_cons_zero, List.set_cons_succ] at H) | ((with_reducible apply wpl_load H); (case hs => exact sc_fn); (case hw | hx => rfl); (case hm => (with_reducible repeat first | exact mH)); (case hv => rfl)) | ((with_reducible apply st3_k); (case H => exact H); (case hy => exact Nat.le_of_lt_succ hmany.out); (case hm => (with_reducible repeat first | exact Pull.here | apply Pull.there)); clear H; (try clear W); intro W H; rw [D3.out]))
      rw [rounds_succ]
      cases h4 : ((l.take (secs (fMany l) * 64)).drop (18 + fMany l)).any (· != 0) with
      | false =>
        have H4 := Lib.hid h4
        clear h4
        go_wp2_with (first | ((with_reducible refine wpl_absorb H ?_); clear H; (first  | generalize W.heap.size = q0); (try clear W); intro W H) | ((with_reducible apply wpl_loadA H); (case hs => exact ag _ _ rfl); (case hw | hx => rfl); (case hm => (with_reducible repeat first | exact mH | apply mT)); (case hv | hl => rfl); (try simp only [List.drop_zero, List.drop_succ_cons, List.take_succ_cons, List.take_zero, List.take_nil])) | ((with_reducible apply wpl_store H); (case hw | hx | hy => rfl); (case hm => (with_reducible repeat first | exact Upd.here)); (case hs => exact sz_ag _ _ rfl); (case h1 => rfl); (case hk => exact Nat.le_of_ble_eq_true rfl); clear H; (try clear W); intro W H; first | simp only [setL, List.set_cons_zero, List.set_cons_succ] at H) | ((with_reducible apply wpl_load H); (case hs => exact sc_fn); (case hw | hx => rfl); (case hm => (with_reducible repeat first | exact mH)); (case hv => rfl)) | ((with_reducible apply st4_k (l := l) H2.out.2 H3.out); (case H => exact H); (case hm => (with_reducible repeat first | exact Pull.here | apply Pull.there)); (case G => (repeat (first | exact HG.out | with_reducible apply Gives.cons))); clear H; (try clear W); intro W H; rw [H4.out]; simp only [Bool.not_false]))
        rw [rounds_succ]
        by_cases h5 : onF (onF 1 ((l.drop 4).take 10)) ((l.drop 18).take (fMany l)) = ofBe ((l.drop 14).take 4)
        · have D5 := Lib.hid (decide_eq_true h5)
          have H5 := Lib.hid h5
          clear h5
          go_wp2_with (first | ((with_reducible refine wpl_absorb H ?_); clear H; (first  | generalize W.heap.size = q0); (try clear W); intro W H) | ((with_reducible apply wpl_loadA H); (case hs => exact ag _ _ rfl); (case hw | hx => rfl); (case hm => (with_reducible repeat first | exact mH | apply mT)); (case hv | hl => rfl); (try simp only [List.drop_zero, List.drop_succ_cons, List.take_succ_cons, List.take_zero, List.take_nil])) | ((with_reducible apply wpl_store H); (case hw | hx | hy => rfl); (case hm => (with_reducible repeat first | exact Upd.here)); (case hs => exact sz_ag _ _ rfl); (case h1 => rfl); (case hk => exact Nat.le_of_ble_eq_true rfl); clear H; (try clear W); intro W H; first | simp only [setL, List.set_cons_zero, List.set_cons_succ] at H) | ((with_reducible apply wpl_load H); (case hs => exact sc_fn); (case hw | hx => rfl); (case hm => (with_reducible repeat first | exact mH)); (case hv => rfl)) | ((with_reducible apply st5_k (l := l) h64 H2.out.2 H3.out); (case H => exact H); (case hm => (with_reducible repeat first | exact Pull.here | apply Pull.there)); (case G => (repeat (first | exact HG.out | with_reducible apply Gives.cons))); clear H; (try clear W); intro W H; rw [D5.out]))
          rw [rounds_succ]
          go_wp2_with (first | go_big_skip )
          refine HK.out 0 _ ?_ (Reord.use H (by ((repeat (with_reducible apply Reord.cons; (case p => (with_reducible repeat first | exact Pull.here)))); repeat (first | with_reducible exact Reord.rest | with_reducible apply Reord.drop))))
          unfold fErr fTail fRec
          rw [if_neg (by rw [hl.out]; omega), if_neg (fun h => h H2.out), if_neg (by rw [hl.out]; have := H3.out; omega), H4.out, if_neg (by simp), if_neg (fun h => h H5.out)]
        · have D5 := Lib.hid (decide_eq_false h5)
          have H5 := Lib.hid h5
          clear h5
          go_wp2_with (first | ((with_reducible refine wpl_absorb H ?_); clear H; (first  | generalize W.heap.size = q0); (try clear W); intro W H) | ((with_reducible apply wpl_load H); (case hs => exact sc _ rfl); (case hw | hx => rfl); (case hm => (with_reducible repeat first | exact mH | apply mT)); (case hv => rfl)) | ((with_reducible apply wpl_loadA H); (case hs => exact ag _ _ rfl); (case hw | hx => rfl); (case hm => (with_reducible repeat first | exact mH | apply mT)); (case hv | hl => rfl); (try simp only [List.drop_zero, List.drop_succ_cons, List.take_succ_cons, List.take_zero, List.take_nil])) | ((with_reducible apply wpl_store H); (case hw | hx | hy => rfl); (case hm => (with_reducible repeat first | exact Upd.here)); (case hs => exact sz_ag _ _ rfl); (case h1 => rfl); (case hk => exact Nat.le_of_ble_eq_true rfl); clear H; (try clear W); intro W H; first | simp only [setL, List.set_cons_zero, List.set_cons_succ] at H) | ((with_reducible apply wpl_load H); (case hs => exact sc_fn); (case hw | hx => rfl); (case hm => (with_reducible repeat first | exact mH)); (case hv => rfl)) | ((with_reducible apply st5_k (l := l) h64 H2.out.2 H3.out); (case H => exact H); (case hm => (with_reducible repeat first | exact Pull.here | apply Pull.there)); (case G => (repeat (first | exact HG.out | with_reducible apply Gives.cons))); clear H; (try clear W); intro W H; rw [D5.out]))
          refine HK.out 6 _ ?_ (Reord.use H (by ((repeat (with_reducible apply Reord.cons; (case p => (with_reducible repeat first | exact Pull.here)))); repeat (first | with_reducible exact Reord.rest | with_reducible apply Reord.drop))))
          unfold fErr fTail fRec
          rw [if_neg (by rw [hl.out]; omega), if_neg (fun h => h H2.out), if_neg (by rw [hl.out]; have := H3.out; omega), H4.out, if_neg (by simp), if_pos H5.out]
      | true =>
        have H4 := Lib.hid h4
        clear h4
        go_wp2_with (first | ((with_reducible refine wpl_absorb H ?_); clear H; (first  | generalize W.heap.size = q0); (try clear W); intro W H) | ((with_reducible apply wpl_load H); (case hs => exact sc _ rfl); (case hw | hx => rfl); (case hm => (with_reducible repeat first | exact mH | apply mT)); (case hv => rfl)) | ((with_reducible apply wpl_loadA H); (case hs => exact ag _ _ rfl); (case hw | hx => rfl); (case hm => (with_reducible repeat first | exact mH | apply mT)); (case hv | hl => rfl); (try simp only [List.drop_zero, List.drop_succ_cons, List.take_succ_cons, List.take_zero, List.take_nil])) | ((with_reducible apply wpl_store H); (case hw | hx | hy => rfl); (case hm => (with_reducible repeat first | exact Upd.here)); (case hs => exact sz_ag _ _ rfl); (case h1 => rfl); (case hk => exact Nat.le_of_ble_eq_true rfl); clear H; (try clear W); intro W H; first | simp only [setL, List.set_cons_zero, List.set_cons_succ] at H) | ((with_reducible apply wpl_load H); (case hs => exact sc_fn); (case hw | hx => rfl); (case hm => (with_reducible repeat first | exact mH)); (case hv => rfl)) | ((with_reducible apply st4_k (l := l) H2.out.2 H3.out); (case H => exact H); (case hm => (with_reducible repeat first | exact Pull.here | apply Pull.there)); (case G => (repeat (first | exact HG.out | with_reducible apply Gives.cons))); clear H; (try clear W); intro W H; rw [H4.out]; simp only [Bool.not_true]))
        refine HK.out 4 _ ?_ (Reord.use H (by ((repeat (with_reducible apply Reord.cons; (case p => (with_reducible repeat first | exact Pull.here)))); repeat (first | with_reducible exact Reord.rest | with_reducible apply Reord.drop))))
        unfold fErr fTail
        rw [if_neg (by rw [hl.out]; omega), if_neg (fun h => h H2.out), if_neg (by rw [hl.out]; have := H3.out; omega), H4.out, if_pos rfl]
    · have D3 := Lib.hid (decide_eq_false h3)
      have H3 := Lib.hid h3
      clear h3
      go_wp2_with (first | ((with_reducible refine wpl_absorb H ?_); clear H; (first  | generalize W.heap.size = q0); (try clear W); intro W H) | ((with_reducible apply wpl_load H); (case hs => exact sc _ rfl); (case hw | hx => rfl); (case hm => (with_reducible repeat first | exact mH | apply mT)); (case hv => rfl)) | ((with_reducible apply wpl_loadA H); (case hs => exact ag _ _ rfl); (case hw | hx => rfl); (case hm => (with_reducible repeat first | exact mH | apply mT)); (case hv | hl => rfl); (try simp only [List.drop_zero, List.drop_succ_cons, List.take_succ_cons, List.take_zero, List.take_nil])) | ((with_reducible apply wpl_store H); (case hw | hx | hy => rfl); (case hm => (with_reducible repeat first | exact Upd.here)); (case hs => exact sz_ag _ _ rfl); (case h1 => rfl); (case hk => exact Nat.le_of_ble_eq_true rfl); clear H; (try clear W); intro W H; first | simp only [setL, List.set_cons_zero, List.set_cons_succ] at H) | ((with_reducible apply wpl_load H); (case hs => exact sc_fn); (case hw | hx => rfl); (case hm => (with_reducible repeat first | exact mH)); (case hv => rfl)) | ((with_reducible apply st3_k); (case H => exact H); (case hy => exact Nat.le_of_lt_succ hmany.out); (case hm => (with_reducible repeat first | exact Pull.here | apply Pull.there)); clear H; (try clear W); intro W H; rw [D3.out]))
      refine HK.out 5 _ ?_ (Reord.use H (by ((repeat (with_reducible apply Reord.cons; (case p => (with_reducible repeat first | exact Pull.here)))); repeat (first | with_reducible exact Reord.rest | with_reducible apply Reord.drop))))
      unfold fErr
      rw [if_neg (by rw [hl.out]; omega), if_neg (fun h => h H2.out), if_pos (by rw [hl.out]; have := H3.out; omega)]
  · have D2 := Lib.hid (decide_eq_false h2)
    have H2 := Lib.hid h2
    clear h2
    go_wp2_with (first | ((with_reducible refine wpl_absorb H ?_); clear H; (first  | generalize W.heap.size = q0); (try clear W); intro W H) | ((with_reducible apply wpl_load H); (case hs => exact sc _ rfl); (case hw | hx => rfl); (case hm => (with_reducible repeat first | exact mH | apply mT)); (case hv => rfl)) | ((with_reducible apply wpl_loadA H); (case hs => exact ag _ _ rfl); (case hw | hx => rfl); (case hm => (with_reducible repeat first | exact mH | apply mT)); (case hv | hl => rfl); (try simp only [List.drop_zero, List.drop_succ_cons, List.take_succ_cons, List.take_zero, List.take_nil])) | ((with_reducible apply wpl_store H); (case hw | hx | hy => rfl); (case hm => (with_reducible repeat first | exact Upd.here)); (case hs => exact sz_ag _ _ rfl); (case h1 => rfl); (case hk => exact Nat.le_of_ble_eq_true rfl); clear H; (try clear W); intro W H; first | simp only [setL, List.set_cons_zero, List.set_cons_succ] at H) | ((with_reducible apply wpl_load H); (case hs => exact sc_fn); (case hw | hx => rfl); (case hm => (with_reducible repeat first | exact mH)); (case hv => rfl)) | ((with_reducible apply st2_k (l := l) h64); (case H => exact H); (case hm => (with_reducible repeat first | exact Pull.here | apply Pull.there)); (case G => (repeat (first | exact HG.out | with_reducible apply Gives.cons))); clear H; (try clear W); intro W H; rw [D2.out]))
    refine HK.out 4 _ ?_ (Reord.use H (by ((repeat (with_reducible apply Reord.cons; (case p => (with_reducible repeat first | exact Pull.here)))); repeat (first | with_reducible exact Reord.rest | with_reducible apply Reord.drop))))
    unfold fErr
    rw [if_neg (by rw [hl.out]; omega), if_pos H2.out]
end
end Go.Proofs.YtdnioigcgggdbaaGreatDoor
namespace Go.Proofs.YtdnioigcgggdbaaGreatDoor
open Go.RowKit

section
variable {W : World} {L L' L0 : List Ent} {R : Ending → World → Prop} {A : Option Addr} {b o m c p : Nat} {l : List UInt8}
theorem check_k (G : Gives L0 fun w => Rd w 1 A m c (bvs l)) (H : Holds W L) (hm : Pull (blk p [.slice A m c, .int .u64 0, .int .i64 0] 177) L L0)
    (k : ∀ (e x y : Nat) w', e = fErr l → (e = 0 → x = fNum l ∧ y = fMany l) → Holds w' (blk p [.slice A m c, .int .u64 (x : Nat), .int .i64 (y : Nat)] 177 :: L0) → R (.returned (errV (e : Nat))) w') :
    Calls Tryz.prog 126 #[.pointer (some ⟨p, 0, none⟩)] W R := by
  have hr := G W (H.pull hm).tail
  have hl := hr.blen
  by_cases h : 64 ≤ m
  · obtain ⟨b, o, rfl, -⟩ := hr.at_ (by omega)
    exact check_long h G H hm fun e w' he h => k e _ _ w' he (fun _ => ⟨rfl, rfl⟩) h
  · refine check_short (by omega) H hm fun w' h' => ?_
    have := k 5 0 0 w' (by unfold fErr; rw [if_pos (by omega)]) (fun h => by cases h) h'
    rwa [errV_n (by decide)] at this
theorem fErr_or (l : List UInt8) : fErr l = 0 ∨ fErr l = 4 ∨ fErr l = 5 ∨ fErr l = 6 := by
  unfold fErr
  repeat' split
  all_goals simp
theorem fErr_ok (h : fErr l = 0) : 64 ≤ l.length ∧ fMany l ≤ 256 ∧ secs (fMany l) * 64 ≤ l.length := by
  unfold fErr at h
  split at h
  · cases h
  · split at h
    · cases h
    · split at h
      · cases h
      · rename_i h1 h2 h3
        exact ⟨by omega, (Classical.not_not.1 h2).2, by omega⟩
set_option maxRecDepth 100000 in
set_option maxHeartbeats 2000000 in
theorem fget_no {e : Nat} (he : fErr l = e) (h0 : e ≠ 0) (G : Gives L fun w => Rd w 1 A m c (bvs l)) (H : Holds W L) (k : ∀ w', Holds w' L → R (.returned (.tuple #[.int .u64 0, .slice none 0 0, .int .i64 0, .int .i64 (e : Nat)])) w') :
    Calls Tryz.prog 97 #[.slice A m c] W R := by
  have HK := Lib.hid k; clear k
  have hor := fErr_or l
  rw [he] at hor
  have He := Lib.hid he
  have HG := Lib.hid G
  clear he G
  have h3 : e = 4 ∨ e = 5 ∨ e = 6 := by omega
  clear hor h0
  rcases h3 with rfl | rfl | rfl
  all_goals
    go_enter Tryz.func97, Tryz.ntmps97
    go_wp2_with (first | ((with_reducible refine wpl_absorb H ?_); clear H; (first  | generalize W.heap.size = q0); (try clear W); intro W H) | ((with_reducible apply check_k HG.out); (case H => exact H); (case hm => (with_reducible repeat first | exact Pull.here)); clear H; (try clear W); intro e x y W he _hxy H; rw [He.out] at he; subst he; clear _hxy))
    refine wp_loop_rounds 4 ?_
    repeat (rw [rounds_succ]; go_wp2_with (first | ((with_reducible apply wpl_load H); (case hs => exact sc _ rfl); (case hw | hx => rfl); (case hm => (with_reducible repeat first | exact mH)); (case hv => rfl)) | ((with_reducible apply is_k); (case H => exact H); (case hb => decide); clear H; (try clear W); intro W H)))
    refine bodyPost_ret (v := .tuple #[.int .u64 0, .slice none 0 0, .int .i64 0, .int .i64 _]) ?_ rfl (HK.out _ (Reord.use H (by ((repeat (with_reducible apply Reord.cons; (case p => (with_reducible repeat first | exact Pull.here)))); repeat (first | with_reducible exact Reord.rest | with_reducible apply Reord.drop)))))
    simp [results, Tryz.results97, go_sem]
set_option maxRecDepth 100000 in
set_option maxHeartbeats 2000000 in
theorem fget_yes (he : fErr l = 0) (G : Gives L fun w => Rd w 1 A m c (bvs l)) (H : Holds W L)
    (k : ∀ A' n' c' w', n' = fMany l → Holds w' (ownE 5 1 (.slice A' n' c') n' (bvs (fRec l)) :: L) → n' ≤ c' → R (.returned (.tuple #[.int .u64 (fNum l : Nat), .slice A' n' n', .int .i64 (secs (fMany l) : Nat), .int .i64 0])) w') :
    Calls Tryz.prog 97 #[.slice A m c] W R := by
  have HK := Lib.hid k; clear k
  have hl := (G W H).blen
  have hle := (G W H).le
  obtain ⟨ho1, ho2, ho3⟩ := fErr_ok he
  have hs1 := secs_le (fMany l)
  have hs2 := secs_lt (fMany l)
  obtain ⟨b, o, rfl, -⟩ := (G W H).at_ (by omega)
  have g : Gives L fun w => Rd w 1 (some ⟨b, o + 18, none⟩) (fMany l) (c - 18) (bvs (fRec l)) := G.imp fun w h => by
    have := h.midB 18 (18 + fMany l) (by omega) (by omega) (by omega)
    rw [show 18 + fMany l - 18 = fMany l by omega] at this
    exact this
  have He := Lib.hid he
  have HG := Lib.hid G
  clear he G
  generalize fRec l = z at *
  have e1 := Lib.hid (wrapI (x := (18 : Int) + (fMany l : Int)) (by omega) (by omega))
  go_enter Tryz.func97, Tryz.ntmps97
  go_wp2_with (first | ((with_reducible refine wpl_absorb H ?_); clear H; (first  | generalize W.heap.size = q0); (try clear W); intro W H) | ((with_reducible apply check_k HG.out); (case H => exact H); (case hm => (with_reducible repeat first | exact Pull.here)); clear H; (try clear W); intro e x1 y1 W he hxy H; rw [He.out] at he; subst he; obtain ⟨rfl, rfl⟩ := hxy rfl))
  refine wp_loop_rounds 4 ?_
  repeat (rw [rounds_succ]; go_wp2_with (first | ((with_reducible apply wpl_load H); (case hs => exact sc _ rfl); (case hw | hx => rfl); (case hm => (with_reducible repeat first | exact mH)); (case hv => rfl)) | ((with_reducible apply is_k); (case H => exact H); (case hb => decide); clear H; (try clear W); intro W H)))
  ((refine wp_region_J [] H (by kernel_rfl) ?_); clear H; (try clear W); intro W H; (apply anyJ_takeP 0 (oi := Oper.mk _ _ _ _ _ _) rfl); (case hs | hf => kernel_rfl); (case hr | hF => kernel_rfl); (case hQ => exact fun _ _ _ h => h); (case H => first | exact .inr H ); (case hy => first | (apply yields_pure rfl; intro w; first | (go_simp; with_reducible rfl) )); (try simp only [Act.put, sA, sB, sC]); (apply anyJ_takeP 1 (oi := Oper.mk _ _ _ _ _ _) rfl); (case hs | hf => kernel_rfl); (case hr | hF => kernel_rfl); (case hQ => exact fun _ _ _ h => h); (case H => first | exact .inr H ); (case hy => first | (apply yields_pure rfl; intro w; first | (go_simp; with_reducible rfl) )); (try simp only [Act.put, sA, sB, sC]); (apply anyJ_takeP 2 (oi := Oper.mk _ _ _ _ _ _) rfl); (case hs | hf => kernel_rfl); (case hr | hF => kernel_rfl); (case hQ => exact fun _ _ _ h => h); (case H => first | exact .inr H ); (case hy => first | (apply yields_pure rfl; intro w; first | (go_simp; with_reducible rfl) )); (try simp only [Act.put, sA, sB, sC]); (apply anyJ_takeP 4 (oi := Oper.mk _ _ _ _ _ _) rfl); (case hs | hf => kernel_rfl); (case hr | hF => kernel_rfl); (case hQ => exact fun _ _ _ h => h); (case H => first | exact .inr H ); (case hy => first | (apply yields_pure rfl; intro w; first | (go_simp; with_reducible rfl) )); (try simp only [Act.put, sA, sB, sC]); (apply anyJ_takeP 5 (oi := Oper.mk _ _ _ _ _ _) rfl); (case hs | hf => kernel_rfl); (case hr | hF => kernel_rfl); (case hQ => exact fun _ _ _ h => h); (case H => first | exact .inr H ); (case hy => first | (apply yields_pure rfl; intro w; first | (go_simp; with_reducible rfl) )); (try simp only [Act.put, sA, sB, sC]); (apply anyJ_takeP 6 (oi := Oper.mk _ _ _ _ _ _) rfl); (case hs | hf => kernel_rfl); (case hr | hF => kernel_rfl); (case hQ => exact fun _ _ _ h => h); (case H => first | exact .inr H ); (case hy => first | (apply yields_pure rfl; intro w; first | (go_simp; with_reducible rfl) )); (try simp only [Act.put, sA, sB, sC]); (apply anyJ_takeP 7 (oi := Oper.mk _ _ _ _ _ _) rfl); (case hs | hf => kernel_rfl); (case hr | hF => kernel_rfl); (case hQ => exact fun _ _ _ h => h); (case H => first | exact .inr H ); (case hy => first | (apply yields_pure rfl; intro w; first | (go_simp; with_reducible rfl) )); (try simp only [Act.put, sA, sB, sC]); (apply anyJ_takeP 13 (oi := Oper.mk _ _ _ _ _ _) rfl); (case hs | hf => kernel_rfl); (case hr | hF => kernel_rfl); (case hQ => exact fun _ _ _ h => h); (case H => first | exact .inr H ); (case hy => first | (apply yields_pure rfl; intro w; first | (go_simp; with_reducible rfl) )); (try simp only [Act.put, sA, sB, sC]); (apply anyJ_takeP 14 (oi := Oper.mk _ _ _ _ _ _) rfl); (case hs | hf => kernel_rfl); (case hr | hF => kernel_rfl); (case hQ => exact fun _ _ _ h => h); (case H => first | exact .inr H ); (case hy => first | (apply yields_pure rfl; intro w; first | (go_simp; with_reducible rfl) )); (try simp only [Act.put, sA, sB, sC]); (apply anyJ_takeP 15 (oi := Oper.mk _ _ _ _ _ _) rfl); (case hs | hf => kernel_rfl); (case hr | hF => kernel_rfl); (case hQ => exact fun _ _ _ h => h); (case H => first | exact .inr H ); (case hy => first | (apply yields_pure rfl; intro w; first | (go_simp; with_reducible rfl) )); (try simp only [Act.put, sA, sB, sC]); (apply anyJ_take 3 (oi := Oper.mk _ _ _ _ _ _) rfl); (case hs | hf => kernel_rfl); (case hr | hc | hF => kernel_rfl); (case hQ => exact fun _ _ _ h => h); (case H => first | exact H ); (case hy => (first | ((apply yields_load); (case hs => exact sc _ rfl); (case hw | hx => rfl); (case hm => (with_reducible repeat first | exact mH | apply mT)); (case hv => rfl)) )); (try simp only [Act.put, sA, sB, sC]); (apply anyJ_take 8 (oi := Oper.mk _ _ _ _ _ _) rfl); (case hs | hf => kernel_rfl); (case hr | hc | hF => kernel_rfl); (case hQ => exact fun _ _ _ h => h); (case H => first | exact H ); (case hy => (first | ((apply yields_load); (case hs => exact sc _ rfl); (case hw | hx => rfl); (case hm => (with_reducible repeat first | exact mH | apply mT)); (case hv => rfl)) )); (try simp only [Act.put, sA, sB, sC]); (apply anyJ_takeP 9 (oi := Oper.mk _ _ _ _ _ _) rfl); (case hs | hf => kernel_rfl); (case hr | hF => kernel_rfl); (case hQ => exact fun _ _ _ h => h); (case H => first | exact .inr H ); (case hy => first | (apply yields_pure rfl; intro w; first | (go_simp; with_reducible rfl) )); (try simp only [Act.put, sA, sB, sC]); (apply anyJ_takeP 10 (oi := Oper.mk _ _ _ _ _ _) rfl); (case hs | hf => kernel_rfl); (case hr | hF => kernel_rfl); (case hQ => exact fun _ _ _ h => h); (case H => first | exact .inr H ); (case hy => first | ((apply yields_slice2 (q := 18) (r := 18 + fMany l) (A' := some ⟨b, o + 18, none⟩)); (case hx | hs => rfl); (case ht | hw => rfl); (case hA => rw [if_neg (by omega)]); (case hl => rfl); (case hh => first | (rw [e1.out]; omega) ); (case h1 | h2 => omega)) ); (try simp only [Act.put, sA, sB, sC]); (apply anyJ_take 16 (oi := Oper.mk _ _ _ _ _ _) rfl); (case hs | hf => kernel_rfl); (case hr | hc | hF => kernel_rfl); (case hQ => exact fun _ _ _ h => h); (case H => first | exact H ); (case hy => (first | ((apply yields_load); (case hs => exact sc _ rfl); (case hw | hx => rfl); (case hm => (with_reducible repeat first | exact mH | apply mT)); (case hv => rfl)) )); (try simp only [Act.put, sA, sB, sC]); (apply anyJ_one 11 (o := Oper.mk _ _ _ _ _ _)); (case hr => kernel_rfl); (case hi | hw => rfl); intro K hK; (first | (first | (go_simp; (with_reducible apply bclone_k (l := z)); (case H => exact H); (case G => (repeat (first | exact g | with_reducible apply Gives.cons))); (case hm => omega); clear H; (try clear W); intro A1 n1 c1 W hn1 H; have Hn1 := Lib.hid hn1; clear hn1) )); (refine hK.out _ _ ?_ ?_); (· first | exact .inr (Reord.use H (by ((repeat (with_reducible apply Reord.cons; (case p => (with_reducible repeat first | exact Pull.here | apply Pull.there)))); repeat (first | with_reducible exact Reord.rest | with_reducible apply Reord.drop))))); clear hK K; (try simp only [Act.put, sA, sB, sC]); (apply anyJ_one 12 (o := Oper.mk _ _ _ _ _ _)); (case hr => kernel_rfl); (case hi | hw => rfl); intro K hK; (first | (first | (go_simp; (with_reducible apply bclip_k); (case H => exact H); (case hm => exact (own_le H.head).1); clear H; (try clear W); intro W H) )); (refine hK.out _ _ ?_ ?_); (· first | exact .inr (Reord.use H (by ((repeat (with_reducible apply Reord.cons; (case p => (with_reducible repeat first | exact Pull.here | apply Pull.there)))); repeat (first | with_reducible exact Reord.rest | with_reducible apply Reord.drop))))); clear hK K; (try simp only [Act.put, sA, sB, sC]); (apply anyJ_one 17 (o := Oper.mk _ _ _ _ _ _)); (case hr => kernel_rfl); (case hi | hw => rfl); intro K hK; (first | (first | (go_simp; (with_reducible apply sectors_k (n := fMany l)); (case H => exact H); (case hN => rfl); (case hn => omega); clear H; (try clear W); intro W H))); (refine hK.out _ _ ?_ ?_); (· first | exact .inr (Reord.use H (by ((repeat (with_reducible apply Reord.cons; (case p => (with_reducible repeat first | exact Pull.here | apply Pull.there)))); repeat (first | with_reducible exact Reord.rest | with_reducible apply Reord.drop))))); clear hK K; (try simp only [Act.put, sA, sB, sC]); (apply anyJ_takeP 18 (oi := Oper.mk _ _ _ _ _ _) rfl); (case hs | hf => kernel_rfl); (case hr | hF => kernel_rfl); (case hQ => exact fun _ _ _ h => h); (case H => first | exact .inr (Reord.use H (by ((repeat (with_reducible apply Reord.cons; (case p => (with_reducible repeat first | exact Pull.here | apply Pull.there)))); repeat (first | with_reducible exact Reord.rest | with_reducible apply Reord.drop))))); (case hy => first | (apply yields_pure rfl; intro w; first | (go_simp; with_reducible rfl) )); (try simp only [Act.put, sA, sB, sC]); (apply anyJ_takeP 19 (oi := Oper.mk _ _ _ _ _ _) rfl); (case hs | hf => kernel_rfl); (case hr | hF => kernel_rfl); (case hQ => exact fun _ _ _ h => h); (case H => first | exact .inr (Reord.use H (by ((repeat (with_reducible apply Reord.cons; (case p => (with_reducible repeat first | exact Pull.here | apply Pull.there)))); repeat (first | with_reducible exact Reord.rest | with_reducible apply Reord.drop))))); (case hy => first | (apply yields_pure rfl; intro w; first | (go_simp; with_reducible rfl) )); (try simp only [Act.put, sA, sB, sC]); (apply anyJ_takeP 20 (oi := Oper.mk _ _ _ _ _ _) rfl); (case hs | hf => kernel_rfl); (case hr | hF => kernel_rfl); (case hQ => exact fun _ _ _ h => h); (case H => first | exact .inr (Reord.use H (by ((repeat (with_reducible apply Reord.cons; (case p => (with_reducible repeat first | exact Pull.here | apply Pull.there)))); repeat (first | with_reducible exact Reord.rest | with_reducible apply Reord.drop))))); (case hy => first | (apply yields_pure rfl; intro w; first | (go_simp; with_reducible rfl) )); (try simp only [Act.put, sA, sB, sC]); (apply anyJ_takeP 21 (oi := Oper.mk _ _ _ _ _ _) rfl); (case hs | hf => kernel_rfl); (case hr | hF => kernel_rfl); (case hQ => exact fun _ _ _ h => h); (case H => first | exact .inr (Reord.use H (by ((repeat (with_reducible apply Reord.cons; (case p => (with_reducible repeat first | exact Pull.here | apply Pull.there)))); repeat (first | with_reducible exact Reord.rest | with_reducible apply Reord.drop))))); (case hy => first | (apply yields_pure rfl; intro w; first | (go_simp; with_reducible rfl) )); (try simp only [Act.put, sA, sB, sC]); (apply anyJ_done (by kernel_rfl)))
  obtain rfl := Hn1.out
  go_wp2_with (first | go_big_skip )
  have hn1c := (own_le H.head).1
  refine bodyPost_ret (v := .tuple #[.int .u64 _, .slice _ _ _, .int .i64 _, .int .i64 0]) ?_ rfl (HK.out A1 _ c1 W rfl (Reord.use H (by ((repeat (with_reducible apply Reord.cons; (case p => (with_reducible repeat first | exact Pull.here)))); repeat (first | with_reducible exact Reord.rest | with_reducible apply Reord.drop)))) hn1c)
  simp [results, Tryz.results97, go_sem]
end
end Go.Proofs.YtdnioigcgggdbaaGreatDoor
