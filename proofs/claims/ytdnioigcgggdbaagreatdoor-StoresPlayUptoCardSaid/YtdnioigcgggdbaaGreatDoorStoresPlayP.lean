/-
  StoresPlay: the statement's frame around the walk: what the arguments read as, and that they read so behind the call.
-/
import Derived.Test.YtdnioigcgggdbaaGreatDoorCards
import Derived.Test.YtdnioigcgggdbaaGreatDoorSg4
import Derived.Test.YtdnioigcgggdbaaGreatDoorMap
import Derived.Test.YtdnioigcgggdbaaGreatDoorMaq
import Derived.Test.YtdnioigcgggdbaaGreatDoorMab
import Derived.Test.YtdnioigcgggdbaaGreatDoorTie
import Derived.ProofKit
import Derived.OpenShut
import Derived.ShutString
import Derived.ChangeOld
import Derived.Deep.DeepHandedRow
import Derived.Lib.LaidTab
set_option linter.unusedVariables false
set_option linter.unusedSimpArgs false
namespace Go.Proofs.YtdnioigcgggdbaaGreatDoor.storesPlay
open Go.ChangeShapes Go.WideShapes Go.ChangeAt Go.RowKit

theorem own : ownKnob Tryz.prog.godebug = none := by kernel_rfl
theorem laidOut : laidOutB Tryz.prog = true := by kernel_rfl
/-- what the row's list gives of math/bits.deBruijn32tab. -/
def cells0 : List Value := ([0, 1, 28, 2, 29, 14, 24, 3, 30, 22, 20, 15, 25, 17, 4, 8, 31, 27, 13, 23, 21, 19, 16, 7, 26, 12, 18, 6, 11, 5, 10, 9] : List Int).map (Value.int .u8)
/-- what the row's list gives of math/bits.deBruijn64tab. -/
def cells1 : List Value := ([0, 1, 56, 2, 57, 49, 28, 3, 61, 58, 42, 50, 38, 29, 17, 4, 62, 47, 59, 36, 45, 43, 51, 22, 53, 39, 33, 30, 24, 18, 12, 5, 63, 55, 48, 27, 60, 41, 37, 16, 46, 35, 44, 21, 52, 32, 23, 11, 54, 26, 40, 15, 34, 20, 31, 10, 25, 14, 19, 9, 13, 8, 7, 6] : List Int).map (Value.int .u8)
/-- what the row's list gives of internal/strconv.uint64pow10. -/
def cells2 : List Value := ([1, 10, 100, 1000, 10000, 100000, 1000000, 10000000, 100000000, 1000000000, 10000000000, 100000000000, 1000000000000, 10000000000000, 100000000000000, 1000000000000000, 10000000000000000, 100000000000000000, 1000000000000000000, 10000000000000000000] : List Int).map (Value.int .u64)
/-- what the bound gives. -/
theorem bulk_one {H : Type} (d : DataW H) : 1 ≤ Rows.uptoBulk d := by
  cases d with
  | lit l => cases l <;> simp [Rows.uptoBulk]
  | _ => simp [Rows.uptoBulk]
theorem bulk_part {H : Type} {d : DataW H} : ∀ {l : List (DataW H)}, d ∈ l → Rows.uptoBulk d ≤ Rows.uptoBulkAll l
  | x :: r, h => by
    simp only [Rows.uptoBulkAll]
    rcases List.mem_cons.1 h with rfl | h
    · omega
    · have := bulk_part h; omega
theorem bulk_count {H : Type} : ∀ l : List (DataW H), l.length ≤ Rows.uptoBulkAll l
  | [] => by simp
  | x :: r => by have := bulk_one x; have := bulk_count r; simp only [Rows.uptoBulkAll, List.length_cons]; omega
theorem bulk_agg {H : Type} (l : List (DataW H)) (d : DataW H) (h : d ∈ l) : Rows.uptoBulk d ≤ Rows.uptoBulk (.agg l) := by
  have := bulk_part h; simp only [Rows.uptoBulk]; omega
theorem bulk_slice {H : Type} (e sp : List (DataW H)) (d : DataW H) (h : d ∈ e) : Rows.uptoBulk d ≤ Rows.uptoBulk (.slice e sp) := by
  have := bulk_part h; simp only [Rows.uptoBulk]; omega
theorem bulk_len {H : Type} (e sp : List (DataW H)) : e.length ≤ Rows.uptoBulk (.slice e sp) := by
  have := bulk_count e; simp only [Rows.uptoBulk]; omega
theorem bulk_small {H : Type} {l : List (DataW H)} {d : DataW H} (h : Rows.uptoSmall H l = true) (hd : d ∈ l) : Rows.uptoBulk d ≤ 1048576 :=
  Nat.le_trans (bulk_part hd) (of_decide_eq_true h)
set_option maxRecDepth 100000 in
set_option maxHeartbeats 2000000 in
theorem contract (H : Type) (enc : TypeId × Value → H) (W : World) (base : Nat) (args : Array Value) (ds gs : List (DataW H)) (before : List MemPlace) (hbulk : Rows.uptoSmall H (ds ++ gs) = true)
    (hval0 : ∀ (j : Nat) t v, Tryz.f3.params[j]? = some t → args[j]? = some v → Value.okWide Tryz.prog W .any base t v)
    (hW : DataW.Whole enc Tryz.prog Tryz.f3.params.toList Rows.storesPlaySpec.vars false W args.toList ds gs before) (hL : laidMetH Tryz.prog Rows.storesPlayUptoRow.laid W) :
    Calls Tryz.prog 3 args W fun e W' => ∃ v, e = .returned v ∧ Rows.storesPlaySpec.post enc Tryz.prog Tryz.f3 false true false false W args v W' := by
  have hval : ∀ (j : Nat) t v, Tryz.f3.params[j]? = some t → args[j]? = some v → Value.okWide Tryz.prog W .any base t v := hval0
  have hW' := hW
  obtain ⟨p, q, hA0, hV, rfl, hfz, hnd⟩ := hW
  have hA : DataW.TrodAll enc Tryz.prog W 0 (fun _ => true) true Tryz.f3.params.toList args.toList ds p := hA0
  rw [Tryz.params3] at hA hval
  obtain ⟨v0, vs0, d0, ds0, p0, q0, hargs, rfl, rfl, h0, r0⟩ := trodAll_cons hA
  obtain ⟨v1, vs1, d1, ds1, p1, q1, rfl, rfl, rfl, h1, r1⟩ := trodAll_cons r0
  obtain ⟨rfl, rfl, rfl⟩ := trodAll_nil r1
  obtain rfl : args = #[v0, v1] := by cases args; simp_all
  obtain ⟨rfl, rfl⟩ := trodVars_none hV
  have k0 := h0
  have lt0 : ∀ x ∈ p0, x.block < W.heap.size := by obtain ⟨m, hm⟩ := k0; exact DataW.trod_lt m _ _ _ hm
  obtain ⟨⟨l0⟩, rfl, -⟩ := okWide_struct Tryz.underlying23 (hval 0 23 v0 rfl rfl)
  obtain ⟨fu0, hf0⟩ := h0
  obtain ⟨hl0, hc0⟩ := leaves_spec (l := [3, 3, 3]) 6 (by kernel_rfl) hf0
  simp only [Value.cells, List.length_cons, List.length_nil] at hl0 hc0
  obtain ⟨c0_0, c0_1, c0_2, rfl⟩ : ∃ c0_0 c0_1 c0_2, l0 = [c0_0, c0_1, c0_2] := by match l0, hl0 with | [c0_0, c0_1, c0_2], _ => exact ⟨c0_0, c0_1, c0_2, rfl⟩
  obtain ⟨c, f, y, e, ht⟩ := hc0 0 3 rfl
  obtain rfl : c0_0 = c := by simpa using e
  obtain ⟨a0_0, e1, -, w0_0⟩ := DataW.trod_int Tryz.underlying3 ht
  obtain rfl : c0_0 = .int .i64 a0_0 := by simpa using e1
  clear e e1 ht
  obtain ⟨c, f, y, e, ht⟩ := hc0 1 3 rfl
  obtain rfl : c0_1 = c := by simpa using e
  obtain ⟨a0_1, e1, -, w0_1⟩ := DataW.trod_int Tryz.underlying3 ht
  obtain rfl : c0_1 = .int .i64 a0_1 := by simpa using e1
  clear e e1 ht
  obtain ⟨c, f, y, e, ht⟩ := hc0 2 3 rfl
  obtain rfl : c0_2 = c := by simpa using e
  obtain ⟨a0_2, e1, -, w0_2⟩ := DataW.trod_int Tryz.underlying3 ht
  obtain rfl : c0_2 = .int .i64 a0_2 := by simpa using e1
  clear e e1 ht
  have k1 := h1
  have lt1 : ∀ x ∈ p1, x.block < W.heap.size := by obtain ⟨m, hm⟩ := k1; exact DataW.trod_lt m _ _ _ hm
  obtain ⟨a1, len1, cap1, rfl⟩ := okWide_slice Tryz.underlying24 (hval 1 24 v1 rfl rfl)
  obtain ⟨cs1, ws1, w1, wl1, wn1, wb1⟩ : ∃ (cs : List Value) (ws : List ActV), Rd W 6 a1 len1 cap1 cs ∧ ws.length = len1 ∧ len1 ≤ Rows.uptoBulk d1 ∧ ∀ j y, ws[j]? = some y → ActAt W (Rows.uptoBulk d1) cs (j * 6) y := by
    obtain ⟨fuel, hf⟩ := h1
    exact rd_of_acts Rows.uptoBulk bulk_agg bulk_slice bulk_len Tryz.underlying24 Tryz.underlying53 (by kernel_rfl) (by kernel_rfl) Tryz.underlying5 (by kernel_rfl) Tryz.underlying3 (by kernel_rfl) Tryz.underlying50 (by kernel_rfl) Tryz.underlying51 (by kernel_rfl) Tryz.underlying4 (by kernel_rfl) hf
  clear hA0 hval0
  refine (storesPlay_walk W a0_0 w0_0 a0_1 w0_1 a0_2 w0_2 w1 wl1 wn1 wb1 (bulk_small hbulk (by simp))).mono fun e W' ⟨he, bel⟩ => ?_
  subst he
  exact ⟨_, rfl, _, _, _, [], _, [], hW', trodAll_mk1 (shut_bool Tryz.underlying4 _), (trodAll_cons_mk (Below.trod laidOut (by kernel_rfl) (of_decide_eq_true (by kernel_rfl)) k0 bel lt0) (trodAll_cons_mk (Below.trod laidOut (by kernel_rfl) (of_decide_eq_true (by kernel_rfl)) k1 bel lt1) trodAll_mk0)), rfl, Below.frame bel _, fun h => by cases h⟩

noncomputable def laidWorld (os : Os) : World :=
  { World.holding Tryz.prog os ⟨#[], #[], []⟩ with heap := ((((World.holding Tryz.prog os ⟨#[], #[], []⟩).heap).modify 1 (fun z => match z with | .cells _ t frozen => .cells cells0.toArray t frozen | z => z)).modify 2 (fun z => match z with | .cells _ t frozen => .cells cells1.toArray t frozen | z => z)).modify 0 (fun z => match z with | .cells _ t frozen => .cells cells2.toArray t frozen | z => z) }
theorem laid_met (os : Os) : laidMet Tryz.prog Rows.storesPlayUptoRow.laid ((laidWorld os).forCall (fun _ _ => 0) ⟨#[], #[.agg #[.int .i64 0, .int .i64 0, .int .i64 0], .slice none 0 0], []⟩).memory :=
  laidMet_of_run' 8 (by kernel_rfl) (by kernel_rfl)
theorem reads (os : Os) {H : Type} (enc : TypeId × Value → H) : ∃ places, DataW.whole enc Tryz.prog ((laidWorld os).forCall (fun _ _ => 0) ⟨#[], #[.agg #[.int .i64 0, .int .i64 0, .int .i64 0], .slice none 0 0], []⟩).memory Tryz.f3.params.toList Rows.storesPlaySpec.vars false (#[.agg #[.int .i64 0, .int .i64 0, .int .i64 0], .slice none 0 0] : Array Value).toList 8 = some ([.agg [.lit (.int .i64 0), .lit (.int .i64 0), .lit (.int .i64 0)], .nil], [], places) :=
  ⟨[], by kernel_rfl⟩
set_option maxRecDepth 100000 in
theorem lifted (os : Os) (started : os.Started) (H : Type) (enc : TypeId × Value → H) (F : Stop.Interp) :
    ReturnsInHanded {} Tryz.checked os 3 .any ((Rows.OpenSpec.upto Rows.storesPlaySpec).preRow enc Tryz.prog Tryz.f3 Rows.storesPlayUptoRow.domain false Rows.storesPlayUptoRow.laid) (((Rows.OpenSpec.upto Rows.storesPlaySpec).at F).post enc Tryz.prog Tryz.f3 false true false false) := by
  obtain ⟨places, hx⟩ := reads os enc
  refine returnsInHanded_of_row (C := Tryz.checked) (s := (Rows.OpenSpec.upto Rows.storesPlaySpec)) own started (by kernel_rfl) Tryz.func3
    (witness_row_at (enc := enc) (C := Tryz.checked) false (laidWorld os) #[.agg #[.int .i64 0, .int .i64 0, .int .i64 0], .slice none 0 0] rfl (by kernel_rfl) (by kernel_rfl) (by kernel_rfl)
      (OpenSpec.preRow_of_cond 8 hx (by kernel_rfl) (fun k hk => by cases hk; kernel_rfl) (by kernel_rfl) (laid_met os))) ?_
  intro W base args ds gs before hval hW hdom hc1 hc2 hL hc3 hc4
  exact contract H enc W base args ds gs before (by first | exact hc1 _ rfl | exact hc2 _ rfl | exact hc3 _ rfl | exact hc4 _ rfl) hval hW hL

theorem over : Rows.StoresPlayUptoSaid :=
  OpenClaim.holds_of_cond 3 Tryz.f3 rfl rfl rfl rfl rfl rfl rfl ⟨rfl, rfl, rfl, rfl, rfl⟩ rfl rfl rfl rfl rfl (by kernel_rfl) Tryz.func3 (by kernel_rfl)
    (of_decide_eq_true (by kernel_rfl)) (by unfold Func.isWrapper; first | (rw [if_pos (by decide +kernel)]; kernel_rfl) | (rw [if_neg (by decide +kernel)]; exact ⟨rfl, rfl⟩))
    (fun os started H enc _ F => by rw [OpenClaim.pre_eq_preRow]; exact lifted os started H enc F)

theorem plain (f : FuncId) (fn : Func) (hf : Tryz.pinned.checked.prog.funcNamed "almoner/almonerlaw07.StoresPlay" = some f) (hfn : Tryz.pinned.checked.prog.funcs[f]? = some fn) :
    true = Tryz.pinned.checked.prog.looks [] ∧ ∀ (j : Nat) t, fn.params[j]? = some t → Tryz.pinned.checked.prog.wantsStandIn t = false := by
  obtain rfl : f = 3 := Option.some.inj ((show Tryz.prog.funcNamed "almoner/almonerlaw07.StoresPlay" = some 3 by kernel_rfl).symm.trans hf) |>.symm
  obtain rfl : fn = Tryz.f3 := (Option.some.inj (Tryz.func3.symm.trans hfn)).symm
  refine ⟨by kernel_rfl, fun j t ht => ?_⟩
  rw [Tryz.params3] at ht
  have hm := Array.mem_of_getElem? ht
  simp only [List.mem_toArray, List.mem_cons, List.not_mem_nil, or_false] at hm
  rcases hm with rfl | rfl
  · exact (show Tryz.prog.wantsStandIn 23 = false by kernel_rfl)
  · exact (show Tryz.prog.wantsStandIn 24 = false by kernel_rfl)
/-- the given statement -/
theorem proved : Rows.StoresPlayUptoCardSaid :=
  Claim7.holds_tied_plain_at .later [] _ _ _ _ over (fun _ h => by cases h) (by kernel_rfl) (fun _ h => by cases h) storesPlayUpto_row_tie rfl ⟨rfl, rfl⟩ (by kernel_rfl) rfl plain (by kernel_rfl)
#print axioms proved
end Go.Proofs.YtdnioigcgggdbaaGreatDoor.storesPlay
