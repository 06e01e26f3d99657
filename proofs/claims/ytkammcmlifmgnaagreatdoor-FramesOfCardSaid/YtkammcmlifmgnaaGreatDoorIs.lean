/-
  errors.Is where both errors are numbers of type api.Errno.
-/
import Derived.Test.YtkammcmlifmgnaaGreatDoorMem2
import Derived.Test.YtkammcmlifmgnaaGreatDoorSz
import Derived.Lib.IfaceEq
import Derived.LaidEql
import Derived.Stop.Asserts
import Derived.WalkKit
import Derived.RowKitTokens
set_option linter.unusedVariables false
set_option linter.unusedSimpArgs false
namespace Go.Proofs.YtkammcmlifmgnaaGreatDoor
open Go.RowKit Go.Extern.Stop Go.Stop Go.Extern

/-- how many package-level variables the program has: where the types' handles lie. -/
noncomputable def gsz : Nat := Tryz.prog.globals.size
theorem is_typeOf (v : Value) (w : World) : (Extern.ReflectliteType.typeOf #[.iface 25 v]).run Tryz.prog w = .ok (.iface 146 (.agg #[.pointer (some ⟨gsz, 25, none⟩)])) w := by kernel_rfl
def cmpF : TypeId → Sem Value := fun t => do Extern.Rtype.noPackHeld "Comparable" t; pure (.bool (← typeInfo t).comparable)
theorem is_comparable (w : World) : (Extern.ReflectliteType.method cmpF #[.agg #[.pointer (some ⟨gsz, 25, none⟩)]]).run Tryz.prog w = .ok (.bool true) w := by kernel_rfl
theorem is_method (f : Nat) (v : Value) (w : World) : (Go.method (f + 1) 146 v "Comparable").run Tryz.prog w = .ok (127, v) w := by kernel_rfl
theorem is_comp : (Tryz.prog.info? 25).map (·.comparable) = some true := by kernel_rfl
theorem is_noIs (v : Value) (xT : TypeId) (w : World) : (Instr.typeAssert (.iface 25 v) xT 148 true).run Tryz.prog w = .ok (.tuple #[.nilIface, .bool false]) w := run_typeAssert_lacksB Tryz.underlying148 (by kernel_rfl) (by kernel_rfl) v xT w
theorem is_noUnwrap (v : Value) (xT : TypeId) (w : World) : (Instr.typeAssert (.iface 25 v) xT 151 true).run Tryz.prog w = .ok (.tuple #[.nilIface, .bool false]) w := run_typeAssert_lacksB Tryz.underlying151 (by kernel_rfl) (by kernel_rfl) v xT w
theorem is_noUnwraps (v : Value) (xT : TypeId) (w : World) : (Instr.typeAssert (.iface 25 v) xT 152 true).run Tryz.prog w = .ok (.tuple #[.nilIface, .bool false]) w := run_typeAssert_lacksB Tryz.underlying152 (by kernel_rfl) (by kernel_rfl) v xT w
set_option maxRecDepth 100000 in
set_option maxHeartbeats 1000000 in
theorem is_nil_e (b : Int) (w : World) : Calls Tryz.prog 21 #[.nilIface, .iface 25 (.int .i64 b)] w fun e w' => e = .returned (.bool false) ∧ w' = w := by
  have hn := run_eql_iface_nil_left (P := Tryz.prog) w 25 (.int .i64 b) Tryz.underlying55
  go_enter Tryz.func21, Tryz.ntmps21
  go_wp2
  go_ret
  exact ⟨rfl, rfl⟩
set_option maxRecDepth 100000 in
set_option maxHeartbeats 1000000 in
theorem eis_e (a b : Int) (w : World) : Calls Tryz.prog 63 #[.iface 25 (.int .i64 a), .iface 25 (.int .i64 b), .bool true] w fun e w' => e = .returned (.bool (a == b)) ∧ w' = w := by
  have heq := fun (w : World) => Lib.run_eql_iface_int (P := Tryz.prog) (k := .i64) w a b Tryz.underlying55 is_comp Tryz.underlying25
  have nE := is_noIs
  have uE := is_noUnwrap
  have vE := is_noUnwraps
  by_cases h : a = b
  · subst h
    rw [beq_self_eq_true] at heq ⊢
    go_enter Tryz.func63, Tryz.ntmps63
    go_wp2
    refine wp_loop_rounds 1 ?_
    rw [rounds_succ]
    go_wp2
    go_ret
    exact ⟨rfl, rfl⟩
  · rw [beq_eq_false_iff_ne.2 h] at heq ⊢
    go_enter Tryz.func63, Tryz.ntmps63
    go_wp2
    refine wp_loop_rounds 1 ?_
    rw [rounds_succ]
    go_wp2
    go_ret
    exact ⟨rfl, rfl⟩
set_option maxRecDepth 100000 in
set_option maxHeartbeats 1000000 in
theorem is_e (a b : Int) (w : World) : Calls Tryz.prog 21 #[.iface 25 (.int .i64 a), .iface 25 (.int .i64 b)] w fun e w' => e = .returned (.bool (a == b)) ∧ w' = w := by
  have h8 := @run_callFunc_extern Tryz.prog 62 _ Extern.ReflectliteType.typeOf Tryz.func62 (by kernel_rfl) (by kernel_rfl) (by kernel_rfl) (by kernel_rfl)
  have h32 := @run_callFunc_extern Tryz.prog 127 _ (Extern.ReflectliteType.method cmpF) Tryz.func127 (by kernel_rfl) (by kernel_rfl) (by kernel_rfl) (by kernel_rfl)
  have tT := is_typeOf
  have cT := is_comparable
  have mR := is_method
  go_enter Tryz.func21, Tryz.ntmps21
  go_wp2_with (go_at_call 63; refine (eis_e a b _).mono ?_; rintro e w' ⟨rfl, rfl⟩)
  go_ret
  exact ⟨rfl, rfl⟩
/-- what an errno is, as an error. -/
def errV (e : Int) : Value := if e = 0 then .nilIface else .iface 25 (.int .i64 e)
section
variable {W : World} {L L' L0 : List Ent} {R : Ending → World → Prop}
theorem is_k {a b : Int} (hb : b ≠ 0) (H : Holds W L) (k : ∀ w', Holds w' L → R (.returned (.bool (a == b))) w') : Calls Tryz.prog 21 #[errV a, .iface 25 (.int .i64 b)] W R := by
  unfold errV
  by_cases h : a = 0
  · rw [if_pos h]
    rw [show (a == b) = false from beq_eq_false_iff_ne.2 (by omega)] at k
    exact (is_nil_e b W).mono fun e w' h => by obtain ⟨rfl, rfl⟩ := h; exact k _ H
  · rw [if_neg h]
    exact (is_e a b W).mono fun e w' h => by obtain ⟨rfl, rfl⟩ := h; exact k _ H
end
end Go.Proofs.YtkammcmlifmgnaaGreatDoor
