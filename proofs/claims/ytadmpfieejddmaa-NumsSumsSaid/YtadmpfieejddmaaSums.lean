/-
  Sums (arrays of bytes) held against one another; contract of SameSums. A slice of sums is told by all its bytes, one behind the other.
-/
import Derived.Test.YtadmpfieejddmaaNums7
import Derived.Test.YtadmpfieejddmaaSame
import Derived.ChangeKeysEq
import Derived.Deep.RegionHeld3
import Derived.Deep.MidRow
import Derived.Deep.DrawnRows
namespace Go.Proofs.Ytadmpfieejddmaa
open Go.RowKit

section
variable {P : Program} (w : World)
theorem part_byte {e : TypeId} (he : P.underlying e = some (.int .u8)) (l : List UInt8) (i : Nat) (hi : i < l.length) : (part e (bvs l).toArray i).run P w = .ok (bv l[i]) w := by
  have hp : P.plainKey e = true := by simp [Program.plainKey, he]
  refine run_part_plain w hp ?_
  simp [bvs, List.getElem?_eq_getElem hi]
theorem eqItems_bytes {e : TypeId} (he : P.underlying e = some (.int .u8)) (d : Nat) (a b : List UInt8) (hab : a.length = b.length) : ∀ (m s : Nat), s + m = a.length →
    (Op.eqItems (d + 1) e 1 (bvs a).toArray (bvs b).toArray (List.range' s m)).run P w = .ok (decide (a.drop s = b.drop s)) w
  | 0, s, h => by
    rw [List.drop_of_length_le (show a.length ≤ s by omega), List.drop_of_length_le (show b.length ≤ s by omega)]
    simp [Op.eqItems]
  | m + 1, s, h => by
    have h1 : s < a.length := by omega
    have h2 : s < b.length := by omega
    have ih := eqItems_bytes he d a b hab m (s + 1) (by omega)
    simp only [List.range'_succ, Op.eqItems, Sem.run_bind, Nat.mul_one, part_byte w he a s h1, part_byte w he b s h2, Result.andThen_ok]
    unfold bv
    rw [run_equalIn_int w d e .u8 .u8 _ _ he]
    simp only [Result.andThen_ok]
    rw [List.drop_eq_getElem_cons h1, List.drop_eq_getElem_cons h2]
    by_cases hx : a[s] = b[s]
    · rw [hx]
      simp only [BEq.rfl, Bool.not_true, Bool.false_eq_true, ↓reduceIte, ih]
      have e2 : (b[s] :: List.drop (s + 1) a = b[s] :: List.drop (s + 1) b) ↔ (List.drop (s + 1) a = List.drop (s + 1) b) := by
        rw [List.cons.injEq]; exact ⟨fun h => h.2, fun h => ⟨rfl, h⟩⟩
      rw [decide_eq_decide.2 e2]
    · have : ((a[s].toNat : Int) == (b[s].toNat : Int)) = false := by
        rw [beq_eq_false_iff_ne]; intro h; exact hx (UInt8.toNat.inj (by omega))
      rw [this, decide_eq_false (p := a[s] :: _ = _) (fun h => hx (List.cons.inj h).1)]
      simp
theorem run_neq_bytes {t e : TypeId} {n : Nat} {i : TypeInfo} (ht : P.underlying t = some (.array n e)) (he : P.underlying e = some (.int .u8)) (hi : P.info? e = some i) (hc : P.cellsOf e = 1) (a b : List UInt8) (ha : a.length = n) (hb : b.length = n) :
    (binOp .neq t (.agg (bvs a).toArray) (.agg (bvs b).toArray)).run P w = .ok (.bool (decide (a ≠ b))) w := by
  rw [run_neq_struct, run_equalIn_array w 9999 _ _ ht hi, hc, List.range_eq_range', eqItems_bytes w he 9998 a b (by omega) n 0 (by omega)]
  simp
theorem run_eql_bytes {t e : TypeId} {n : Nat} {i : TypeInfo} (ht : P.underlying t = some (.array n e)) (he : P.underlying e = some (.int .u8)) (hi : P.info? e = some i) (hc : P.cellsOf e = 1) (a b : List UInt8) (ha : a.length = n) (hb : b.length = n) :
    (binOp .eql t (.agg (bvs a).toArray) (.agg (bvs b).toArray)).run P w = .ok (.bool (decide (a = b))) w := by
  rw [run_eql_struct, run_equalIn_array w 9999 _ _ ht hi, hc, List.range_eq_range', eqItems_bytes w he 9998 a b (by omega) n 0 (by omega)]
  simp
end

/-- in a region that only reads: a whole array out of a block. -/
theorem wpQuiet_load_mid {P : Program} {ops : Array Oper} {C : World → Prop} {Q : Act → Prop} {rest : List Oper} {o : Oper} {a : Act} (hgd : o.guard = none) (ty : TypeId) (x : Operand) (ho : o.op = .load ty x)
    (b off : Nat) (hx : a.eval x = .pointer (some ⟨b, off, none⟩)) (cs : List Value) (d : TypeDesc) (hc : ∀ w, C w → w.rangeAt b off cs)
    (hu : P.underlying ty = some d) (hd : d.isRow = true) (hi : (P.info? ty).map (·.size) = some cs.length)
    (h : ∀ K : Act → Prop, (∀ a, wpQuiet P ops C Q rest a → K a) → K (a.put o.dst (.agg cs.toArray))) : wpQuiet P ops C Q (o :: rest) a := by
  refine wpQuiet_step (fun K hK => ?_)
  rw [if_pos (by simp [Region.wanted, hgd])]
  refine ⟨.agg cs.toArray, fun w hw => ?_, h K hK⟩
  unfold Oper.quietAt execOp
  simp only [ho, hx, Instr.loadAt, Instr.sureAddr, Sem.run_bind, Sem.run_pure, Result.andThen_ok, run_loadVar_mid w b off ty cs d (hc w hw) hu hd hi]
  exact ⟨rfl, rfl⟩

/-- piece k of n bytes. -/
def nth (n : Nat) (l : List UInt8) (k : Nat) : List UInt8 := (l.drop (k * n)).take n
theorem nth_length {n : Nat} {l : List UInt8} {k m : Nat} (hl : l.length = m * n) (hk : k < m) : (nth n l k).length = n := by
  have : (k + 1) * n ≤ m * n := Nat.mul_le_mul_right _ (by omega)
  rw [Nat.add_mul] at this
  unfold nth; rw [List.length_take, List.length_drop]; omega
theorem nth_take (n : Nat) (l : List UInt8) (k : Nat) : l.take (k * n) ++ nth n l k = l.take ((k + 1) * n) := by
  unfold nth; rw [← List.take_add, Nat.add_mul, Nat.one_mul]
/-- the cells of one sum, as a range. -/
theorem Rd.range {w : World} {A : Option Addr} {n cap : Nat} {l : List UInt8} {size : Nat} (h : Rd w size A n cap (bvs l)) {k : Nat} (hk : k < n) :
    ∃ b o, A = some ⟨b, o, none⟩ ∧ w.rangeAt b (o + k * size) (bvs (nth size l k)) := by
  obtain ⟨b, o, rfl, hc⟩ := h.at_ (by omega)
  have hl : l.length = n * size := by have := h.len; rwa [bvs_length] at this
  have hle : (k + 1) * size ≤ n * size := Nat.mul_le_mul_right _ (by omega)
  rw [Nat.add_mul] at hle
  refine ⟨b, o, rfl, fun j v hv => ?_⟩
  have hj : j < size := by
    have := (List.getElem?_eq_some_iff.1 hv).1
    rw [bvs_length, nth_length hl hk] at this; exact this
  rw [Nat.add_assoc, hc _ (by omega), ← hv]
  unfold nth
  rw [bvs_take, bvs_drop, List.getElem?_take, if_pos hj, List.getElem?_drop]
theorem info_sumi : ∃ i, Try.prog.info? 5 = some i := by
  obtain ⟨i0, hi, _⟩ := info_parts info_u8; exact ⟨i0, hi⟩
theorem size_sum : (Try.prog.info? 54).map (·.size) = some 32 := by kernel_rfl

set_option maxRecDepth 100000 in
set_option maxHeartbeats 1000000 in
theorem sameSums_any (A1 : Option Addr) (n1 c1 : Nat) (l1 : List UInt8) (A2 : Option Addr) (n2 c2 : Nat) (l2 : List UInt8) (w : World) (h1 : Rd w 32 A1 n1 c1 (bvs l1)) (h2 : Rd w 32 A2 n2 c2 (bvs l2)) :
    Calls Try.prog 14 #[.slice A1 n1 c1, .slice A2 n2 c2] w (SameP l1 l2 w) := by
  have hl1 : l1.length = n1 * 32 := by have := h1.len; rwa [bvs_length] at this
  have hl2 : l2.length = n2 * 32 := by have := h2.len; rwa [bvs_length] at this
  have hc1 := h1.top
  have hn1 := h1.le
  unfold maxLen at hc1
  have Hl1 := Lib.hid hl1
  have Hl2 := Lib.hid hl2
  clear hl1 hl2
  obtain ⟨iu, hiu⟩ := info_sumi
  by_cases hne : n1 = n2
  · subst hne
    go_enter Try.func14, Try.ntmps14
    go_wp2
    go_loopw [5] (fun i wr => ∃ k d : Nat, k ≤ n1 ∧ i = .int .i64 k ∧ wr = w.drewN d ∧ l1.take (k * 32) = l2.take (k * 32)) (fun i _ => n1 - (intOf i).toNat)
    case atStart => exact ⟨0, 0, Nat.zero_le _, rfl, rfl, by simp⟩
    case round =>
      obtain ⟨k, d, hk, rfl, rfl, ht⟩ := hrel
      have Ht := Lib.hid ht
      clear ht
      by_cases hlt : k < n1
      · obtain ⟨b1, o1, rfl, g1⟩ := (h1.drewN d).range hlt
        obtain ⟨b2, o2, rfl, g2⟩ := (h2.drewN d).range hlt
        have e1 := nth_length Hl1.out hlt
        have e2 := nth_length Hl2.out hlt
        have hq := fun W => run_neq_bytes (P := Try.prog) W Try.underlying54 Try.underlying5 hiu (by kernel_rfl) _ _ e1 e2
        have hst : nth 32 l1 k = nth 32 l2 k → l1.take ((k + 1) * 32) = l2.take ((k + 1) * 32) := fun he => by rw [← nth_take, ← nth_take, he, Ht.out]
        have hst2 : nth 32 l1 k ≠ nth 32 l2 k → l1 ≠ l2 := fun he e => he (by rw [e])
        have Hst := Lib.hid hst
        have Hst2 := Lib.hid hst2
        clear hst hst2 h1 h2
        generalize nth 32 l1 k = x1 at *
        generalize nth 32 l2 k = x2 at *
        have hi1 : (Try.prog.info? 54).map (·.size) = some (bvs x1).length := by rw [bvs_length, e1]; exact size_sum
        have hi2 : (Try.prog.info? 54).map (·.size) = some (bvs x2).length := by rw [bvs_length, e2]; exact size_sum
        have hC1 : ∀ W, (∃ m, W = (w.drewN d).drewN m) → W.rangeAt b1 (o1 + k * 32) (bvs x1) := by rintro _ ⟨m, rfl⟩; exact g1
        have hC2 : ∀ W, (∃ m, W = (w.drewN d).drewN m) → W.rangeAt b2 (o2 + k * 32) (bvs x2) := by rintro _ ⟨m, rfl⟩; exact g2
        have HC1 := Lib.hid hC1
        have HC2 := Lib.hid hC2
        have HI1 := Lib.hid hi1
        have HI2 := Lib.hid hi2
        clear hi1 hi2 g1 g2 e1 e2 hC1 hC2
        by_cases hx : x1 = x2
        · subst hx
          have hq := fun W => (hq W).trans (by rw [show decide (x1 ≠ x1) = false from by simp])
          go_wp2
          refine wp_region_quiet_lit (by kernel_rfl) (by kernel_rfl) ?_
          iterate 3 go_big_quiet_step (fail)
          refine wpQuiet_load_mid rfl _ _ rfl _ _ rfl _ _ HC1.out Try.underlying54 rfl HI1.out (fun K hK => ?_)
          go_simp
          refine hK _ ?_
          clear hK K
          iterate 3 go_big_quiet_step (fail)
          refine wpQuiet_load_mid rfl _ _ rfl _ _ rfl _ _ HC2.out Try.underlying54 rfl HI2.out (fun K hK => ?_)
          go_simp
          refine hK _ ?_
          clear hK K
          go_big_quiet_step (fail)
          refine wpQuiet_nil ?_
          rintro _ ⟨nq, rfl⟩
          go_wp2
          go_roundw
          case rel => exact ⟨k + 1, _, by omega, by go_num, rfl, Hst.out (by first | rfl | trivial)⟩
          case measure => simp [intOf]; omega
        · have hq := fun W => (hq W).trans (by rw [show decide (x1 ≠ x2) = true from by simp [hx]])
          go_wp2
          refine wp_region_quiet_lit (by kernel_rfl) (by kernel_rfl) ?_
          iterate 3 go_big_quiet_step (fail)
          refine wpQuiet_load_mid rfl _ _ rfl _ _ rfl _ _ HC1.out Try.underlying54 rfl HI1.out (fun K hK => ?_)
          go_simp
          refine hK _ ?_
          clear hK K
          iterate 3 go_big_quiet_step (fail)
          refine wpQuiet_load_mid rfl _ _ rfl _ _ rfl _ _ HC2.out Try.underlying54 rfl HI2.out (fun K hK => ?_)
          go_simp
          refine hK _ ?_
          clear hK K
          go_big_quiet_step (fail)
          refine wpQuiet_nil ?_
          rintro _ ⟨nq, rfl⟩
          go_wp2
          go_ret
          exact sameP_no (Hst2.out hx) rfl ⟨d + nq, by rw [World.drewN_drewN]⟩
      · obtain rfl : k = n1 := by omega
        go_wp2
        go_ret
        refine sameP_yes ?_ rfl ⟨d, rfl⟩
        have := Ht.out
        rwa [List.take_of_length_le (by have := Hl1.out; omega), List.take_of_length_le (by have := Hl2.out; omega)] at this
  · have hb : ((n1 : Int) != (n2 : Int)) = true := by rw [bne_iff_ne]; omega
    go_enter Try.func14, Try.ntmps14
    go_wp2
    go_ret
    refine sameP_no (fun e => hne ?_) rfl ⟨0, rfl⟩
    have e1 := Hl1.out
    have e2 := Hl2.out
    rw [e] at e1
    omega
end Go.Proofs.Ytadmpfieejddmaa
