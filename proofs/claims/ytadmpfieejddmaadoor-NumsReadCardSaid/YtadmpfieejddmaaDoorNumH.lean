/-
  Contracts of package nums: GetSums. A slice of sums is told by all its bytes, one behind the other.
-/
import Derived.Test.YtadmpfieejddmaaDoorNumG
import Derived.Laws.CopyOwn
import Derived.StillTailTactics
namespace Go.Proofs.YtadmpfieejddmaaDoor
open Go.RowKit

/-- one sum of a slice of sums, as a slice of bytes. -/
theorem Rd.elem {w : World} {A : Option Addr} {n cap : Nat} {l : List UInt8} {size : Nat} (h : Rd w size A n cap (bvs l)) {k : Nat} (hk : k < n) (hs : size ≤ 1000000) :
    ∃ b o, A = some ⟨b, o, none⟩ ∧ Rd w 1 (some ⟨b, o + k * size, none⟩) size size (bvs ((l.drop (k * size)).take size)) := by
  obtain ⟨b, o, rfl, hc⟩ := h.at_ (by omega)
  have hl : l.length = n * size := by have := h.len; rwa [bvs_length] at this
  have hle : (k + 1) * size ≤ n * size := Nat.mul_le_mul_right _ (by omega)
  rw [Nat.add_mul] at hle
  refine ⟨b, o, rfl, Nat.le_refl _, by simp only [maxLen]; omega, ?_, (fun h => by cases h), fun hp => ⟨_, _, rfl, fun j hj => ?_⟩⟩
  · rw [bvs_length, List.length_take, List.length_drop]; omega
  · rw [Nat.add_assoc, hc _ (by omega), bvs_take, bvs_drop, List.getElem?_take, if_pos (by omega), List.getElem?_drop]

def sum0 : Value := .agg #[.int .u8 0, .int .u8 0, .int .u8 0, .int .u8 0, .int .u8 0, .int .u8 0, .int .u8 0, .int .u8 0, .int .u8 0, .int .u8 0, .int .u8 0, .int .u8 0, .int .u8 0, .int .u8 0, .int .u8 0, .int .u8 0, .int .u8 0, .int .u8 0, .int .u8 0, .int .u8 0, .int .u8 0, .int .u8 0, .int .u8 0, .int .u8 0, .int .u8 0, .int .u8 0, .int .u8 0, .int .u8 0, .int .u8 0, .int .u8 0, .int .u8 0, .int .u8 0]
theorem info_sum : (Tryd.prog.info? 54).map (fun i => (i.zero, i.size, i.bytes)) = some (some sum0, 32, 32) := by kernel_rfl
theorem made_rep (s N : Nat) (z : Value) (hs : 0 < s) : (madeCells (List.replicate s z).toArray N).toList = List.replicate N z := by
  apply List.ext_getElem
  · simp [madeCells]
  · intro i h1 h2
    have hi : i % s < s := Nat.mod_lt _ hs
    simp [madeCells, hi]
theorem sum0_cells : sum0.cells = (List.replicate 32 (bv 0)).toArray := by rfl
theorem made_sums (n : Nat) : (madeCells sum0.cells (n * 32)).toList = bvs (List.replicate (n * 32) 0) := by
  rw [sum0_cells, made_rep 32 _ _ (by omega), bvs, List.map_replicate]
set_option maxRecDepth 100000 in
set_option maxHeartbeats 1000000 in
/-- **nums.GetSums**, where they are not there. -/
theorem getSums_noneO (A : Option Addr) (n cap : Nat) (l : List UInt8) (w : World) (hr : Rd w 1 A n cap (bvs l)) (h : n < 2 ∨ n < 2 + ofBe (l.take 2) * 32) :
    Calls Tryd.prog 7 #[.slice A n cap] w fun e w' => ∃ A', e = .returned (.tuple #[.slice A' 0 0, .int .i64 0, .int .i64 5]) ∧ w'.ownsRow w.heap.size 54 32 (.slice A' 0 0) 0 [] ∧ Ext w w' := by
  have cut : ∀ W, Ext w W → Calls Tryd.prog 18 #[.agg #[.int .i64 2, .int .i64 32], .slice A n cap] W fun e w' => e = .returned (.tuple #[.slice none 0 0, .int .i64 0, .int .i64 5]) ∧ Ext W w' := by
    intro W hW
    by_cases h1 : n < 2
    · exact cut_short A n cap l 2 32 (by omega) W (hr.ext hW) h1
    · exact cut_over A n cap l 2 32 (by omega) (by omega) (by omega) W (hr.ext hW) (by omega) (by omega)
  have Hcut := Lib.hid cut
  have hmk : ∀ W, (Instr.makeSlice 30 (.int .i64 0) (.int .i64 0)).run Tryd.prog W = .ok (.slice (some ⟨W.heap.size, 0, none⟩) 0 0) (W.alloc (.cells #[] 54)) := fun W => by
    have h := run_mk Tryd.underlying30 info_sum 0 0 (by omega) (by omega) (by omega) W
    have e : madeCells sum0.cells (0 * 32) = #[] := by simp [madeCells]
    rw [e] at h
    exact h
  clear cut hr
  go_enter Tryd.func7, Tryd.ntmps7
  go_wp2_with (first
    | (go_at_call 21; refine (ofSums_any _).mono ?_; rintro e w1 ⟨rfl, hx1⟩)
    | (go_at_call 18; refine (Hcut.out _ hx1).mono ?_; rintro e w2 ⟨rfl, hx2⟩))
  go_loop [6, 20] (fun _ i => i = .int .i64 0) (fun _ _ => 0)
  case atStart => exact rfl
  case round =>
    obtain rfl := hrel
    go_wp2
    go_ret3
    exact ⟨_, rfl, own_made _ #[] 54 0 32 _ rfl (by simp [maxLen]) (hx1.trans hx2).size, (hx1.trans hx2).alloc _⟩
theorem getSums_none (A : Option Addr) (n cap : Nat) (l : List UInt8) (w : World) (hr : Rd w 1 A n cap (bvs l)) (h : n < 2 ∨ n < 2 + ofBe (l.take 2) * 32) :
    Calls Tryd.prog 7 #[.slice A n cap] w fun e w' => ∃ A', e = .returned (.tuple #[.slice A' 0 0, .int .i64 0, .int .i64 5]) ∧ Ext w w' :=
  (getSums_noneO A n cap l w hr h).mono fun _ _ ⟨A', h1, _, h3⟩ => ⟨A', h1, h3⟩

theorem setSum (l : List UInt8) (q k : Nat) (hk : k < q) (hl : q * 32 ≤ l.length) :
    splice (bvs (l.take (32 * k) ++ List.replicate ((q - k) * 32) 0)) (k * 32) (bvs ((l.drop (k * 32)).take 32)) = bvs (l.take (32 * (k + 1)) ++ List.replicate ((q - (k + 1)) * 32) 0) := by
  have e1 : (l.take (32 * k)).length = k * 32 := by rw [List.length_take]; omega
  have e2 : (bvs ((l.drop (k * 32)).take 32)).length = 32 := by rw [bvs_length, List.length_take, List.length_drop]; omega
  unfold splice
  have e3 : (bvs (l.take (32 * k))).length = k * 32 := by rw [bvs_length, e1]
  have e4 : l.take (32 * (k + 1)) = l.take (32 * k) ++ (l.drop (k * 32)).take 32 := by
    rw [Nat.mul_comm k 32, ← List.take_add]; rfl
  have e5 : (bvs (l.take (32 * k))).drop (k * 32 + 32) = [] := List.drop_of_length_le (by omega)
  rw [e2, bvs_append, List.take_left' e3, List.drop_append, e3, e5, List.nil_append, e4, List.append_assoc, bvs_append, bvs_append]
  congr 2
  unfold bvs
  rw [List.map_replicate, List.map_replicate, List.drop_replicate]
  congr 1
  omega
set_option maxRecDepth 100000 in
set_option maxHeartbeats 1000000 in
/-- **nums.GetSums**, where they are there. -/
theorem getSums_some (A : Option Addr) (n cap : Nat) (l : List UInt8) (w : World) (hr : Rd w 1 A n cap (bvs l)) (h : 2 + ofBe (l.take 2) * 32 ≤ n) :
    Calls Tryd.prog 7 #[.slice A n cap] w fun e w' => ∃ A' q, e = .returned (.tuple #[.slice A' q q, .int .i64 (2 + (q : Int) * 32), .int .i64 0]) ∧ q = ofBe (l.take 2) ∧
      w'.ownsRow w.heap.size 54 32 (.slice A' q q) q (bvs ((l.drop 2).take (q * 32))) ∧ Ext w w' := by
  have hl := hr.blen
  have hq0 := ofBe_lt (l.take 2)
  have hq1 : ofBe (l.take 2) < 65536 := by
    have : 256 ^ (l.take 2).length ≤ 256 ^ 2 := Nat.pow_le_pow_right (by omega) (by rw [List.length_take]; omega)
    omega
  obtain ⟨q, hq⟩ : ∃ q, ofBe (l.take 2) = q := ⟨_, rfl⟩
  rw [hq] at hq1 h
  have Hq := Lib.hid hq
  have Hl := Lib.hid hl
  clear hq hq0 hl
  have hmk := fun W => run_mk Tryd.underlying30 info_sum q q (Nat.le_refl _) (by omega) (by omega) W
  have hms := made_sums q
  generalize madeCells sum0.cells (q * 32) = cur at hmk hms
  have Hms := Lib.hid hms
  have Hmk := Lib.hid hmk
  clear hmk hms
  go_enter Tryd.func7, Tryd.ntmps7
  go_wp2_with (go_at_call 21; refine (ofSums_any _).mono ?_; rintro e w1 ⟨rfl, hx1⟩)
  refine (cut_some A n cap l 2 32 (by omega) (by omega) (by omega) _ (hr.ext hx1) (by rw [Hq.out]; exact h)).mono ?_
  rintro e w2 ⟨A2, n2, c2, rfl, hn2, hr2, hx2⟩
  rw [Hq.out] at hn2
  have hdiv : (n2 : Int) / 32 = (q : Int) := by omega
  have Hn2 := Lib.hid hn2
  clear hn2
  have hmk := fun W => Hmk.out W
  go_wp2_with (fail)
  have hx : Ext w w2 := hx1.trans hx2
  obtain ⟨p, hp⟩ : ∃ p, (l.drop 2).take n2 = p := ⟨_, rfl⟩
  rw [hp] at hr2
  have hpl := hr2.blen
  have Hp := Lib.hid hp
  have Hpl := Lib.hid hpl
  clear hp hpl hmk
  go_loopw [6, 20] (fun _ i wr => ∃ k : Nat, k ≤ q ∧ i = .int .i64 k ∧ Hid (wr.heap[w2.heap.size]? = some (.cells (bvs (p.take (32 * k) ++ List.replicate ((q - k) * 32) 0)).toArray 54 (0, 0))) ∧ Below w2.heap.size w2 wr) (fun _ i _ => q - (intOf i).toNat)
  case atStart =>
    refine ⟨0, Nat.zero_le _, rfl, ?_, Ext.below ((Ext.refl w2).alloc _)⟩
    show _ = _
    rw [heap_alloc_new w2 _]
    have := Hms.out
    obtain ⟨cl⟩ := cur
    simp only at this
    rw [this]
    simp
  case round =>
    obtain ⟨k, hk, rfl, hg, hb⟩ := hrel
    by_cases hlt : k < q
    · have hr3 := (hr2.ext (Ext.of hb))
      have hn2 := Hn2.out
      obtain ⟨A5, n5, c5, hsl0, hn5, hc5, hr5⟩ := cut_l Tryd.underlying22 info_u8s hr3 .i64 (k * 32) (by omega)
      have hsl : ∀ W, (Instr.slice 22 (.slice A2 n2 c2) (some (.int .i64 ((k : Int) * 32))) none none).run Tryd.prog W = .ok (.slice A5 n5 c5) W := hsl0
      have h5 : 32 ≤ n5 := by omega
      rw [Nat.mul_one, ← bvs_drop] at hr5
      have hset := setSum p q k hlt (by have := Hpl.out; omega)
      have Hset := Lib.hid hset
      have hplen := Hpl.out
      have hcs : (bvs ((p.drop (k * 32)).take 32)).length = 32 := by rw [bvs_length, List.length_take, List.length_drop]; omega
      have hcur : (bvs (p.take (32 * k) ++ List.replicate ((q - k) * 32) 0)).length = q * 32 := by rw [bvs_length, List.length_append, List.length_take, List.length_replicate]; omega
      have Hcs := Lib.hid hcs
      have Hcur := Lib.hid hcur
      clear hsl0 hn5 hc5 hset hcs hcur hn2 hplen
      have hwr : IntKind.i64.wrap ((k : Int) * 32) = (k : Int) * 32 := by rw [IntKind.wrap_i64]; omega
      go_wp2
      go_still_tail 8, (by kernel_rfl)
      change wpList _ _ _ _ _ wr.drew
      refine wpList_copy_splice rfl _ _ 22 22 rfl 5 Tryd.underlying22 info_u8s _ _ _ _ _ _ rfl rfl w2.heap.size (k * 32) _ 54 hg.out (bvs ((p.drop (k * 32)).take 32)) ?_ ?_ ?_ (bvs_oneCell _) w2.heap.size w2 hb.drew (Nat.le_refl _) ?_
      · rw [Hcs.out]; exact (Nat.min_eq_right h5).symm
      · intro _
        obtain ⟨b5, o5, rfl, hc5⟩ := hr5.at_ (by omega)
        refine ⟨?_, _, rfl, fun j v hv => ?_⟩
        · rfl
        · have hj : j < 32 := by have := (List.getElem?_eq_some_iff.1 hv).1; rwa [Hcs.out] at this
          rw [add_mk]
          have := hc5 j (by omega)
          rw [bvs_take, List.getElem?_take, if_pos hj] at hv
          exact this.trans hv
      · rw [Hcs.out, Hcur.out]; omega
      · intro w3 hg3 hb3
        rw [Hset.out] at hg3
        have Hg3 := Lib.hid hg3
        clear hg3
        go_wp2
        go_roundw
        case rel => exact ⟨k + 1, by omega, by go_num, Hg3.out, hb3⟩
        case measure => simp [intOf]; omega
    · obtain rfl : k = q := by omega
      go_wp2
      go_ret3
      have hn2 := Hn2.out
      refine ⟨some ⟨w2.heap.size, 0, none⟩, k, ?_, Hq.out.symm, ?_, hx.trans (Ext.of hb)⟩
      · rw [show (k : Int) * 32 = (n2 : Int) from by omega]; rfl
      · have hpl := Hpl.out
        have h1 : p.take (32 * k) = p := List.take_of_length_le (by omega)
        have hg1 := hg.out
        rw [h1, Nat.sub_self, Nat.zero_mul, List.replicate_zero, List.append_nil] at hg1
        rw [← hn2, Hp.out]
        exact ⟨by rw [bvs_length, hpl, hn2], .inr ⟨_, _, _, rfl, hx.size, hg1, Nat.le_refl _, by simp only [maxLen]; omega, by simp [bvs_length, hpl, hn2], by rw [List.take_of_length_le (by simp [bvs_length]; omega)]⟩⟩
end Go.Proofs.YtadmpfieejddmaaDoor
