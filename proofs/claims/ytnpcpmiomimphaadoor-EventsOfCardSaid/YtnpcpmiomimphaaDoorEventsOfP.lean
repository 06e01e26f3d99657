/-
  EventsOf: the statement's frame around the walk: what the arguments read as, and that they read so behind the call.
-/
import Derived.Test.YtnpcpmiomimphaaDoorCards
import Derived.Test.YtnpcpmiomimphaaDoorErH
import Derived.Test.YtnpcpmiomimphaaDoorOpen2
import Derived.Test.YtnpcpmiomimphaaDoorOpen4
import Derived.Test.YtnpcpmiomimphaaDoorSz
import Derived.Test.YtnpcpmiomimphaaDoorTie
import Derived.ProofKit
import Derived.OpenShut
import Derived.ShutString
import Derived.ChangeOld
import Derived.Deep.DeepHandedRow
import Derived.Lib.LaidTab
set_option linter.unusedVariables false
set_option linter.unusedSimpArgs false
namespace Go.Proofs.YtnpcpmiomimphaaDoor.eventsOf
open Go.ChangeShapes Go.WideShapes Go.ChangeAt Go.RowKit

theorem own : ownKnob Tryd.prog.godebug = none := by kernel_rfl
theorem laidOut : laidOutB Tryd.prog = true := by kernel_rfl
theorem laid_tail {P : Program} {W : World} {x : String × DataW Unit} {rest : List (String × DataW Unit)} (h : laidMet P (x :: rest) W) : laidMet P rest W := by
  obtain ⟨ps, hv, hn, hp⟩ := h
  obtain ⟨g, t, cs, fuel, p, q, h1, h2, h3, h4, h5, rfl⟩ := hv
  exact ⟨q, h5, (List.nodup_append.1 hn).2.1, fun b off hb => hp b off (List.mem_append_right _ hb)⟩
/-- what the row's list gives of math/bits.deBruijn32tab. -/
def cells0 : List Value := ([0, 1, 28, 2, 29, 14, 24, 3, 30, 22, 20, 15, 25, 17, 4, 8, 31, 27, 13, 23, 21, 19, 16, 7, 26, 12, 18, 6, 11, 5, 10, 9] : List Int).map (Value.int .u8)
/-- what the row's list gives of math/bits.deBruijn64tab. -/
def cells1 : List Value := ([0, 1, 56, 2, 57, 49, 28, 3, 61, 58, 42, 50, 38, 29, 17, 4, 62, 47, 59, 36, 45, 43, 51, 22, 53, 39, 33, 30, 24, 18, 12, 5, 63, 55, 48, 27, 60, 41, 37, 16, 46, 35, 44, 21, 52, 32, 23, 11, 54, 26, 40, 15, 34, 20, 31, 10, 25, 14, 19, 9, 13, 8, 7, 6] : List Int).map (Value.int .u8)
/-- what the row's list gives of internal/strconv.uint64pow10. -/
def cells2 : List Value := ([1, 10, 100, 1000, 10000, 100000, 1000000, 10000000, 100000000, 1000000000, 10000000000, 100000000000, 1000000000000, 10000000000000, 100000000000000, 1000000000000000, 10000000000000000, 100000000000000000, 1000000000000000000, 10000000000000000000] : List Int).map (Value.int .u64)
/-- what the row's list gives of almoner/events.needs. -/
def cells3 : List Value := ([0, 79, 67, 1, 77, 87, 2, 2, 5, 16, 0, 16, 48, 48, 17, 0] : List Int).map (Value.int .i64)
theorem at3 {W : World} (h : laidMetH Tryd.prog Rows.eventsOfRow.laid W) : ∀ (i : Nat) v, cells3[i]? = some v → W.cell? ⟨0, i, none⟩ = some v := by
  have t := Lib.tabIs_of_head (P := Tryd.prog) (name := "almoner/events.needs") (k := .i64) (zs := [0, 79, 67, 1, 77, 87, 2, 2, 5, 16, 0, 16, 48, 48, 17, 0]) (rest := _) (show Tryd.prog.globalNamed "almoner/events.needs" = some 0 by kernel_rfl) (show (Tryd.prog.globals[0]?).map (·.type) = some 64 by kernel_rfl) Tryd.underlying64 Tryd.underlying3 (by kernel_rfl) (by kernel_rfl) (laid_tail (P := Tryd.prog) (laid_tail (P := Tryd.prog) (laid_tail (P := Tryd.prog) h)))
  intro i v hi
  have hlt : i < cells3.length := (List.getElem?_eq_some_iff.1 hi).1
  have c := t.cell (show Tryd.prog.globalNamed "almoner/events.needs" = some 0 by kernel_rfl) i hlt
  rw [c, ← hi]
  have h2 : i < ([0, 79, 67, 1, 77, 87, 2, 2, 5, 16, 0, 16, 48, 48, 17, 0] : List Int).length := hlt
  unfold cells3
  rw [List.getElem?_map, List.getElem?_eq_getElem h2, List.getD_eq_getElem?_getD, List.getElem?_eq_getElem h2]
  rfl
set_option maxRecDepth 100000 in
set_option maxHeartbeats 2000000 in
theorem contract (H : Type) (enc : TypeId × Value → H) (W : World) (base : Nat) (args : Array Value) (ds gs : List (DataW H)) (before : List MemPlace)
    (hval0 : ∀ (j : Nat) t v, Tryd.f7.params[j]? = some t → args[j]? = some v → Value.okWide Tryd.prog W .any base t v)
    (hW : DataW.Whole enc Tryd.prog Tryd.f7.params.toList Rows.eventsOfSpec.vars false W args.toList ds gs before) (hL : laidMetH Tryd.prog Rows.eventsOfRow.laid W) :
    Calls Tryd.prog 7 args W fun e W' => ∃ v, e = .returned v ∧ Rows.eventsOfSpec.post enc Tryd.prog Tryd.f7 false true false false W args v W' := by
  have hval : ∀ (j : Nat) t v, Tryd.f7.params[j]? = some t → args[j]? = some v → Value.okWide Tryd.prog W .any base t v := hval0
  have hW' := hW
  obtain ⟨p, q, hA0, hV, rfl, hfz, hnd⟩ := hW
  have hA : DataW.TrodAll enc Tryd.prog W 0 (fun _ => true) true Tryd.f7.params.toList args.toList ds p := hA0
  rw [Tryd.params7] at hA hval
  obtain ⟨v0, vs0, d0, ds0, p0, q0, hargs, rfl, rfl, h0, r0⟩ := trodAll_cons hA
  obtain ⟨v1, vs1, d1, ds1, p1, q1, rfl, rfl, rfl, h1, r1⟩ := trodAll_cons r0
  obtain ⟨rfl, rfl, rfl⟩ := trodAll_nil r1
  obtain rfl : args = #[v0, v1] := by cases args; simp_all
  obtain ⟨rfl, rfl⟩ := trodVars_none hV
  have k0 := h0
  have lt0 : ∀ x ∈ p0, x.block < W.heap.size := by obtain ⟨m, hm⟩ := k0; exact DataW.trod_lt m _ _ _ hm
  obtain ⟨⟨l0⟩, rfl, -⟩ := okWide_struct Tryd.underlying31 (hval 0 31 v0 rfl rfl)
  obtain ⟨fu0, hf0⟩ := h0
  obtain ⟨hl0, hc0⟩ := leaves_spec (l := [22, 23, 23, 24, 24, 24, 24, 24, 24, 24, 24, 29]) 6 (by kernel_rfl) hf0
  simp only [Value.cells, List.length_cons, List.length_nil] at hl0 hc0
  obtain ⟨c0_0, c0_1, c0_2, c0_3, c0_4, c0_5, c0_6, c0_7, c0_8, c0_9, c0_10, c0_11, rfl⟩ : ∃ c0_0 c0_1 c0_2 c0_3 c0_4 c0_5 c0_6 c0_7 c0_8 c0_9 c0_10 c0_11, l0 = [c0_0, c0_1, c0_2, c0_3, c0_4, c0_5, c0_6, c0_7, c0_8, c0_9, c0_10, c0_11] := by match l0, hl0 with | [c0_0, c0_1, c0_2, c0_3, c0_4, c0_5, c0_6, c0_7, c0_8, c0_9, c0_10, c0_11], _ => exact ⟨c0_0, c0_1, c0_2, c0_3, c0_4, c0_5, c0_6, c0_7, c0_8, c0_9, c0_10, c0_11, rfl⟩
  obtain ⟨c, f, y, e, ht⟩ := hc0 0 22 rfl
  obtain rfl : c0_0 = c := by simpa using e
  obtain ⟨a0_0, e1, -, w0_0⟩ := DataW.trod_int Tryd.underlying22 ht
  obtain rfl : c0_0 = .int .u8 a0_0 := by simpa using e1
  clear e e1 ht
  obtain ⟨c, f, y, e, ht⟩ := hc0 1 23 rfl
  obtain rfl : c0_1 = c := by simpa using e
  obtain ⟨a0_1, e1, -, w0_1⟩ := DataW.trod_int Tryd.underlying23 ht
  obtain rfl : c0_1 = .int .u32 a0_1 := by simpa using e1
  clear e e1 ht
  obtain ⟨c, f, y, e, ht⟩ := hc0 2 23 rfl
  obtain rfl : c0_2 = c := by simpa using e
  obtain ⟨a0_2, e1, -, w0_2⟩ := DataW.trod_int Tryd.underlying23 ht
  obtain rfl : c0_2 = .int .u32 a0_2 := by simpa using e1
  clear e e1 ht
  obtain ⟨c, f, y, e, ht⟩ := hc0 3 24 rfl
  obtain rfl : c0_3 = c := by simpa using e
  obtain ⟨a0_3, e1, -, w0_3⟩ := DataW.trod_int Tryd.underlying24 ht
  obtain rfl : c0_3 = .int .u64 a0_3 := by simpa using e1
  clear e e1 ht
  obtain ⟨c, f, y, e, ht⟩ := hc0 4 24 rfl
  obtain rfl : c0_4 = c := by simpa using e
  obtain ⟨a0_4, e1, -, w0_4⟩ := DataW.trod_int Tryd.underlying24 ht
  obtain rfl : c0_4 = .int .u64 a0_4 := by simpa using e1
  clear e e1 ht
  obtain ⟨c, f, y, e, ht⟩ := hc0 5 24 rfl
  obtain rfl : c0_5 = c := by simpa using e
  obtain ⟨a0_5, e1, -, w0_5⟩ := DataW.trod_int Tryd.underlying24 ht
  obtain rfl : c0_5 = .int .u64 a0_5 := by simpa using e1
  clear e e1 ht
  obtain ⟨c, f, y, e, ht⟩ := hc0 6 24 rfl
  obtain rfl : c0_6 = c := by simpa using e
  obtain ⟨a0_6, e1, -, w0_6⟩ := DataW.trod_int Tryd.underlying24 ht
  obtain rfl : c0_6 = .int .u64 a0_6 := by simpa using e1
  clear e e1 ht
  obtain ⟨c, f, y, e, ht⟩ := hc0 7 24 rfl
  obtain rfl : c0_7 = c := by simpa using e
  obtain ⟨a0_7, e1, -, w0_7⟩ := DataW.trod_int Tryd.underlying24 ht
  obtain rfl : c0_7 = .int .u64 a0_7 := by simpa using e1
  clear e e1 ht
  obtain ⟨c, f, y, e, ht⟩ := hc0 8 24 rfl
  obtain rfl : c0_8 = c := by simpa using e
  obtain ⟨a0_8, e1, -, w0_8⟩ := DataW.trod_int Tryd.underlying24 ht
  obtain rfl : c0_8 = .int .u64 a0_8 := by simpa using e1
  clear e e1 ht
  obtain ⟨c, f, y, e, ht⟩ := hc0 9 24 rfl
  obtain rfl : c0_9 = c := by simpa using e
  obtain ⟨a0_9, e1, -, w0_9⟩ := DataW.trod_int Tryd.underlying24 ht
  obtain rfl : c0_9 = .int .u64 a0_9 := by simpa using e1
  clear e e1 ht
  obtain ⟨c, f, y, e, ht⟩ := hc0 10 24 rfl
  obtain rfl : c0_10 = c := by simpa using e
  obtain ⟨a0_10, e1, -, w0_10⟩ := DataW.trod_int Tryd.underlying24 ht
  obtain rfl : c0_10 = .int .u64 a0_10 := by simpa using e1
  clear e e1 ht
  obtain ⟨c, f, y, e, ht⟩ := hc0 11 29 rfl
  obtain rfl : c0_11 = c := by simpa using e
  obtain ⟨a0_11, e1, -, w0_11⟩ := DataW.trod_int Tryd.underlying29 ht
  obtain rfl : c0_11 = .int .i64 a0_11 := by simpa using e1
  clear e e1 ht
  have k1 := h1
  have lt1 : ∀ x ∈ p1, x.block < W.heap.size := by obtain ⟨m, hm⟩ := k1; exact DataW.trod_lt m _ _ _ hm
  obtain ⟨a1, len1, cap1, rfl⟩ := okWide_slice Tryd.underlying32 (hval 1 32 v1 rfl rfl)
  obtain ⟨z1, w1⟩ : ∃ l, Rd W 1 a1 len1 cap1 (bvs l) := by
    obtain ⟨fuel, hf⟩ := h1
    rcases open_ints Tryd.underlying32 Tryd.underlying5 (by kernel_rfl) hf with ⟨hcs, _⟩ | ⟨x, l, c, zs, hcs, _, hl, hm, hz, _, hcell, hwz⟩
    · simp [Value.cells] at hcs
      obtain ⟨rfl, rfl, rfl⟩ := hcs
      exact ⟨[], Rd.nil_ _ _⟩
    · simp [Value.cells] at hcs
      obtain ⟨rfl, rfl, rfl⟩ := hcs
      exact rd_of_ints hl hm (by simpa using hz) hcell hwz
  clear hA0 hval0
  refine (eventsOf_walk W a0_0 w0_0 a0_1 w0_1 a0_2 w0_2 a0_3 w0_3 a0_4 w0_4 a0_5 w0_5 a0_6 w0_6 a0_7 w0_7 a0_8 w0_8 a0_9 w0_9 a0_10 w0_10 a0_11 w0_11 a1 len1 cap1 z1 w1 (at3 hL)).mono fun e W' ⟨he, bel⟩ => ?_
  subst he
  exact ⟨_, rfl, _, _, _, [], _, [], hW', trodAll_mk1 (shut_bool Tryd.underlying4 _), (trodAll_cons_mk (Below.trod laidOut (by kernel_rfl) (of_decide_eq_true (by kernel_rfl)) k0 bel lt0) (trodAll_cons_mk (Below.trod laidOut (by kernel_rfl) (of_decide_eq_true (by kernel_rfl)) k1 bel lt1) trodAll_mk0)), rfl, Below.frame bel _, fun h => by cases h⟩

noncomputable def laidWorld (os : Os) : World :=
  { World.holding Tryd.prog os ⟨#[], #[], []⟩ with heap := (((((World.holding Tryd.prog os ⟨#[], #[], []⟩).heap).modify 2 (fun z => match z with | .cells _ t frozen => .cells cells0.toArray t frozen | z => z)).modify 3 (fun z => match z with | .cells _ t frozen => .cells cells1.toArray t frozen | z => z)).modify 1 (fun z => match z with | .cells _ t frozen => .cells cells2.toArray t frozen | z => z)).modify 0 (fun z => match z with | .cells _ t frozen => .cells cells3.toArray t frozen | z => z) }
theorem laid_met (os : Os) : laidMet Tryd.prog Rows.eventsOfRow.laid ((laidWorld os).forCall (fun _ _ => 0) ⟨#[], #[.agg #[.int .u8 0, .int .u32 0, .int .u32 0, .int .u64 0, .int .u64 0, .int .u64 0, .int .u64 0, .int .u64 0, .int .u64 0, .int .u64 0, .int .u64 0, .int .i64 0], .slice none 0 0], []⟩).memory :=
  laidMet_of_run' 8 (by kernel_rfl) (by kernel_rfl)
theorem reads (os : Os) {H : Type} (enc : TypeId × Value → H) : ∃ places, DataW.whole enc Tryd.prog ((laidWorld os).forCall (fun _ _ => 0) ⟨#[], #[.agg #[.int .u8 0, .int .u32 0, .int .u32 0, .int .u64 0, .int .u64 0, .int .u64 0, .int .u64 0, .int .u64 0, .int .u64 0, .int .u64 0, .int .u64 0, .int .i64 0], .slice none 0 0], []⟩).memory Tryd.f7.params.toList Rows.eventsOfSpec.vars false (#[.agg #[.int .u8 0, .int .u32 0, .int .u32 0, .int .u64 0, .int .u64 0, .int .u64 0, .int .u64 0, .int .u64 0, .int .u64 0, .int .u64 0, .int .u64 0, .int .i64 0], .slice none 0 0] : Array Value).toList 8 = some ([.agg [.agg [.lit (.int .u8 0), .lit (.int .u32 0), .lit (.int .u32 0), .agg [.lit (.int .u64 0), .lit (.int .u64 0), .lit (.int .u64 0)], .agg [.lit (.int .u64 0), .lit (.int .u64 0), .lit (.int .u64 0)], .lit (.int .u64 0), .lit (.int .u64 0)], .lit (.int .i64 0)], .nil], [], places) :=
  ⟨[], by kernel_rfl⟩
set_option maxRecDepth 100000 in
theorem lifted (os : Os) (started : os.Started) (H : Type) (enc : TypeId × Value → H) (F : Stop.Interp) :
    ReturnsInHanded {} Tryd.checked os 7 .any ((OpenSpec.ofChange Rows.eventsOfSpec).preRow enc Tryd.prog Tryd.f7 Rows.eventsOfRow.domain false Rows.eventsOfRow.laid) (((OpenSpec.ofChange Rows.eventsOfSpec).at F).post enc Tryd.prog Tryd.f7 false true false false) := by
  obtain ⟨places, hx⟩ := reads os enc
  refine returnsInHanded_of_row (C := Tryd.checked) (s := (OpenSpec.ofChange Rows.eventsOfSpec)) own started (by kernel_rfl) Tryd.func7
    (witness_row_at (enc := enc) (C := Tryd.checked) false (laidWorld os) #[.agg #[.int .u8 0, .int .u32 0, .int .u32 0, .int .u64 0, .int .u64 0, .int .u64 0, .int .u64 0, .int .u64 0, .int .u64 0, .int .u64 0, .int .u64 0, .int .i64 0], .slice none 0 0] rfl (by kernel_rfl) (by kernel_rfl) (by kernel_rfl)
      (OpenSpec.preRow_of_cond 8 hx (by kernel_rfl) (fun k hk => by cases hk) (by kernel_rfl) (laid_met os))) ?_
  intro W base args ds gs before hval hW hbulk _ _ hL _ _
  exact contract H enc W base args ds gs before hval hW hL

theorem over : Rows.EventsOfSaid :=
  OpenClaim.holds_of_cond 7 Tryd.f7 rfl rfl rfl rfl rfl rfl rfl ⟨rfl, rfl, rfl, rfl, rfl⟩ rfl rfl rfl rfl rfl (by kernel_rfl) Tryd.func7 (by kernel_rfl)
    (of_decide_eq_true (by kernel_rfl)) (by unfold Func.isWrapper; first | (rw [if_pos (by decide +kernel)]; kernel_rfl) | (rw [if_neg (by decide +kernel)]; exact ⟨rfl, rfl⟩))
    (fun os started H enc _ F => by rw [OpenClaim.pre_eq_preRow]; exact lifted os started H enc F)

theorem plain (f : FuncId) (fn : Func) (hf : Tryd.pinned.checked.prog.funcNamed "almoner/almonerlaw25.EventsOf" = some f) (hfn : Tryd.pinned.checked.prog.funcs[f]? = some fn) :
    false = Tryd.pinned.checked.prog.looks [] ∧ ∀ (j : Nat) t, fn.params[j]? = some t → Tryd.pinned.checked.prog.wantsStandIn t = false := by
  obtain rfl : f = 7 := Option.some.inj ((show Tryd.prog.funcNamed "almoner/almonerlaw25.EventsOf" = some 7 by kernel_rfl).symm.trans hf) |>.symm
  obtain rfl : fn = Tryd.f7 := (Option.some.inj (Tryd.func7.symm.trans hfn)).symm
  refine ⟨by kernel_rfl, fun j t ht => ?_⟩
  rw [Tryd.params7] at ht
  have hm := Array.mem_of_getElem? ht
  simp only [List.mem_toArray, List.mem_cons, List.not_mem_nil, or_false] at hm
  rcases hm with rfl | rfl
  · exact (show Tryd.prog.wantsStandIn 31 = false by kernel_rfl)
  · exact (show Tryd.prog.wantsStandIn 32 = false by kernel_rfl)
/-- the given statement -/
theorem proved : Rows.EventsOfCardSaid :=
  Claim7.holds_tied_plain_at .later [] _ _ _ _ over (fun _ h => by cases h) (by kernel_rfl) (fun _ h => by cases h) eventsOf_row_tie rfl ⟨rfl, rfl⟩ (by kernel_rfl) rfl plain (by kernel_rfl)
#print axioms proved
end Go.Proofs.YtnpcpmiomimphaaDoor.eventsOf
