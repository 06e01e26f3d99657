/-
  StoresBlown: the statement's frame around the walk: what the arguments read as, and that they read so behind the call.
-/
import Derived.Test.YtdnioigcgggdbaaRows
import Derived.Test.YtdnioigcgggdbaaStX
import Derived.Test.YtdnioigcgggdbaaOpN
import Derived.Test.YtdnioigcgggdbaaOpM
import Derived.Test.YtdnioigcgggdbaaSz
import Derived.ProofKit
import Derived.OpenShut
import Derived.ShutString
import Derived.ChangeOld
import Derived.Deep.DeepHandedRow
import Derived.Lib.LaidTab
set_option linter.unusedVariables false
set_option linter.unusedSimpArgs false
namespace Go.Proofs.Ytdnioigcgggdbaa.storesBlown
open Go.ChangeShapes Go.WideShapes Go.ChangeAt Go.RowKit

theorem own : ownKnob Try.prog.godebug = none := by kernel_rfl
theorem laidOut : laidOutB Try.prog = true := by kernel_rfl
set_option maxRecDepth 100000 in
set_option maxHeartbeats 2000000 in
theorem contract (H : Type) (enc : TypeId × Value → H) (W : World) (base : Nat) (args : Array Value) (ds gs : List (DataW H)) (before : List MemPlace)
    (hval0 : ∀ (j : Nat) t v, Try.f8.params[j]? = some t → args[j]? = some v → Value.okWide Try.prog W .any base t v)
    (hW : DataW.Whole enc Try.prog Try.f8.params.toList Rows.storesBlownSpec.vars false W args.toList ds gs before) :
    Calls Try.prog 8 args W fun e W' => ∃ v, e = .returned v ∧ Rows.storesBlownSpec.post enc Try.prog Try.f8 false true false false W args v W' := by
  have hval : ∀ (j : Nat) t v, Try.f8.params[j]? = some t → args[j]? = some v → Value.okWide Try.prog W .any base t v := hval0
  have hW' := hW
  obtain ⟨p, q, hA0, hV, rfl, hfz, hnd⟩ := hW
  have hA : DataW.TrodAll enc Try.prog W 0 (fun _ => true) true Try.f8.params.toList args.toList ds p := hA0
  rw [Try.params8] at hA hval
  obtain ⟨v0, vs0, d0, ds0, p0, q0, hargs, rfl, rfl, h0, r0⟩ := trodAll_cons hA
  obtain ⟨v1, vs1, d1, ds1, p1, q1, rfl, rfl, rfl, h1, r1⟩ := trodAll_cons r0
  obtain ⟨rfl, rfl, rfl⟩ := trodAll_nil r1
  obtain rfl : args = #[v0, v1] := by cases args; simp_all
  obtain ⟨rfl, rfl⟩ := trodVars_none hV
  have k0 := h0
  have lt0 : ∀ x ∈ p0, x.block < W.heap.size := by obtain ⟨m, hm⟩ := k0; exact DataW.trod_lt m _ _ _ hm
  obtain ⟨a0, len0, cap0, rfl⟩ := okWide_slice Try.underlying25 (hval 0 25 v0 rfl rfl)
  obtain ⟨cs0, ws0, w0, wl0, wb0⟩ : ∃ (cs : List Value) (ls : List (List UInt8)), Rd W 1 a0 len0 cap0 cs ∧ ls.length = len0 ∧ ∀ (j : Nat) (l : List UInt8), ls[j]? = some l → ∃ (B : Option Addr) (m k : Nat), cs[j]? = some (Value.slice B m k) ∧ Rd W 1 B m k (bvs l) := by
    obtain ⟨fuel, hf⟩ := h0
    exact rd_of_lists Try.underlying25 Try.underlying22 Try.underlying5 (by kernel_rfl) (by kernel_rfl) hf
  have k1 := h1
  have lt1 : ∀ x ∈ p1, x.block < W.heap.size := by obtain ⟨m, hm⟩ := k1; exact DataW.trod_lt m _ _ _ hm
  obtain ⟨⟨l1⟩, rfl, -⟩ := okWide_struct Try.underlying59 (hval 1 59 v1 rfl rfl)
  obtain ⟨fu1, hf1⟩ := h1
  obtain ⟨hl1, hc1⟩ := leaves_spec (l := [22, 22, 5, 42]) 6 (by kernel_rfl) hf1
  simp only [Value.cells, List.length_cons, List.length_nil] at hl1 hc1
  obtain ⟨c1_0, c1_1, c1_2, c1_3, rfl⟩ : ∃ c1_0 c1_1 c1_2 c1_3, l1 = [c1_0, c1_1, c1_2, c1_3] := by match l1, hl1 with | [c1_0, c1_1, c1_2, c1_3], _ => exact ⟨c1_0, c1_1, c1_2, c1_3, rfl⟩
  obtain ⟨c, f, y, e, ht⟩ := hc1 0 22 rfl
  obtain rfl : c1_0 = c := by simpa using e
  obtain ⟨B1_0, m1_0, k1_0, l1_0, e1, w1_0⟩ := rd_of_bytes Try.underlying22 Try.underlying5 (by kernel_rfl) ht
  obtain rfl : c1_0 = .slice B1_0 m1_0 k1_0 := e1
  clear e ht
  obtain ⟨c, f, y, e, ht⟩ := hc1 1 22 rfl
  obtain rfl : c1_1 = c := by simpa using e
  obtain ⟨B1_1, m1_1, k1_1, l1_1, e1, w1_1⟩ := rd_of_bytes Try.underlying22 Try.underlying5 (by kernel_rfl) ht
  obtain rfl : c1_1 = .slice B1_1 m1_1 k1_1 := e1
  clear e ht
  obtain ⟨c, f, y, e, ht⟩ := hc1 2 5 rfl
  obtain rfl : c1_2 = c := by simpa using e
  obtain ⟨a1_2, e1, -, w1_2⟩ := DataW.trod_int Try.underlying5 ht
  obtain rfl : c1_2 = .int .u8 a1_2 := by simpa using e1
  clear e e1 ht
  obtain ⟨c, f, y, e, ht⟩ := hc1 3 42 rfl
  obtain rfl : c1_3 = c := by simpa using e
  obtain ⟨B1_3, m1_3, k1_3, l1_3, e1, w1_3⟩ := rd_of_boolsL Try.underlying42 Try.underlying4 (by kernel_rfl) ht
  obtain rfl : c1_3 = .slice B1_3 m1_3 k1_3 := e1
  clear e ht
  clear hA0 hval0
  refine (storesBlown_walk W w0 wl0 wb0 B1_0 m1_0 k1_0 l1_0 w1_0 B1_1 m1_1 k1_1 l1_1 w1_1 a1_2 w1_2 w1_3).mono fun e W' ⟨he, bel⟩ => ?_
  subst he
  exact ⟨_, rfl, _, _, _, [], _, [], hW', trodAll_mk1 (shut_bool Try.underlying4 _), (trodAll_cons_mk (Below.trod laidOut (by kernel_rfl) (of_decide_eq_true (by kernel_rfl)) k0 bel lt0) (trodAll_cons_mk (Below.trod laidOut (by kernel_rfl) (of_decide_eq_true (by kernel_rfl)) k1 bel lt1) trodAll_mk0)), rfl, Below.frame bel _, fun h => by cases h⟩

noncomputable def laidWorld (os : Os) : World :=
  { World.holding Try.prog os ⟨#[], #[], []⟩ with heap := (World.holding Try.prog os ⟨#[], #[], []⟩).heap }
theorem laid_met (os : Os) : laidMet Try.prog Rows.storesBlownRow.laid ((laidWorld os).forCall (fun _ _ => 0) ⟨#[], #[.slice none 0 0, .agg #[.slice none 0 0, .slice none 0 0, .int .u8 0, .slice none 0 0]], []⟩).memory :=
  laidMet_of_run' 8 (by kernel_rfl) (by kernel_rfl)
theorem reads (os : Os) {H : Type} (enc : TypeId × Value → H) : ∃ places, DataW.whole enc Try.prog ((laidWorld os).forCall (fun _ _ => 0) ⟨#[], #[.slice none 0 0, .agg #[.slice none 0 0, .slice none 0 0, .int .u8 0, .slice none 0 0]], []⟩).memory Try.f8.params.toList Rows.storesBlownSpec.vars false (#[.slice none 0 0, .agg #[.slice none 0 0, .slice none 0 0, .int .u8 0, .slice none 0 0]] : Array Value).toList 8 = some ([.nil, .agg [.nil, .nil, .lit (.int .u8 0), .nil]], [], places) :=
  ⟨[], by kernel_rfl⟩
set_option maxRecDepth 100000 in
theorem lifted (os : Os) (started : os.Started) (H : Type) (enc : TypeId × Value → H) (F : Stop.Interp) :
    ReturnsInHanded {} Try.checked os 8 .any ((OpenSpec.ofChange Rows.storesBlownSpec).preRow enc Try.prog Try.f8 Rows.storesBlownRow.domain false Rows.storesBlownRow.laid) (((OpenSpec.ofChange Rows.storesBlownSpec).at F).post enc Try.prog Try.f8 false true false false) := by
  obtain ⟨places, hx⟩ := reads os enc
  refine returnsInHanded_of_row (C := Try.checked) (s := (OpenSpec.ofChange Rows.storesBlownSpec)) own started (by kernel_rfl) Try.func8
    (witness_row_at (enc := enc) (C := Try.checked) false (laidWorld os) #[.slice none 0 0, .agg #[.slice none 0 0, .slice none 0 0, .int .u8 0, .slice none 0 0]] rfl (by kernel_rfl) (by kernel_rfl) (by kernel_rfl)
      (OpenSpec.preRow_of_cond 8 hx (by kernel_rfl) (fun k hk => by cases hk) (by kernel_rfl) (laid_met os))) ?_
  intro W base args ds gs before hval hW hdom hc1 hc2 hL hc3 hc4
  exact contract H enc W base args ds gs before hval hW

theorem over : Rows.StoresBlownSaid :=
  OpenClaim.holds_of_cond 8 Try.f8 rfl rfl rfl rfl rfl rfl rfl ⟨rfl, rfl, rfl, rfl, rfl⟩ rfl rfl rfl rfl rfl (by kernel_rfl) Try.func8 (by kernel_rfl)
    (of_decide_eq_true (by kernel_rfl)) (by unfold Func.isWrapper; first | (rw [if_pos (by decide +kernel)]; kernel_rfl) | (rw [if_neg (by decide +kernel)]; exact ⟨rfl, rfl⟩))
    (fun os started H enc _ F => by rw [OpenClaim.pre_eq_preRow]; exact lifted os started H enc F)

/-- the given statement -/
theorem proved : Rows.StoresBlownSaid := over
#print axioms proved
end Go.Proofs.Ytdnioigcgggdbaa.storesBlown
