/-
  NumsSums: of sums ahead of which fewer are told the first ones are got, and behind these a row of the others; of one that is cut nothing is.
-/
import Derived.Test.YtadmpfieejddmaaSums
import Derived.Test.YtadmpfieejddmaaAlive1
import Derived.OpenShut
set_option linter.unusedVariables false
namespace Go.Proofs.Ytadmpfieejddmaa
open Go.RowKit
attribute [local go_sem ↓] Go.wp_at_zero Go.wp_at_succ

theorem step_append {P : Program} {w : World} {ops : Array Oper} {o : Oper} {a : Act} {Q : Exit → Act → World → Prop} {K : Act → World → Prop} {E : Prop} (hgd : o.guard = none) (s x : Operand) (t : TypeId)
    (ho : o.op = .call { callee := .builtin .append, args := #[s, x], argTypes := #[t, t] })
    {e : TypeId} {z : Value} {size bytes : Nat} (ht : P.underlying t = some (.slice e)) (hinfo : (P.info? e).map (fun i => (i.zero, i.size, i.bytes)) = some (some z, size, bytes))
    (hzs : z.cells.size = size) (hsz : 0 < size)
    {A : Option Addr} {n cap : Nat} (hs : a.eval s = .slice A n cap) {A2 : Option Addr} {m c : Nat} (hx : a.eval x = .slice A2 m c)
    {base : Nat} {xs ys : List Value} (hown : w.ownsRow base e size (.slice A n cap) n xs) (hr : Rd w size A2 m c ys) (h1 : ∀ u ∈ ys, u.oneCell' = true)
    (h63 : n + m ≤ maxLen) (hbytes : (n + m) * bytes ≤ 140737488355328) (hbase : base ≤ w.heap.size)
    (h : ∀ A' n' cap' w', Hid (n' = n + m) → w'.ownsRow base e size (.slice A' n' cap') n' (xs ++ ys) → w.grownBy w' (Value.slice A n cap).ownBlock →
      ((Value.slice A' n' cap').ownBlock = (Value.slice A n cap).ownBlock ∨ (Value.slice A' n' cap').ownBlock = some w.heap.size) → K (a.put o.dst (.slice A' n' cap')) w') :
    if Region.wanted o (yielded ops a.tmps) = true then Oper.wp P o a w K Q else E := by
  obtain ⟨i, hi, hz, hsize, hby⟩ := info_parts hinfo
  obtain ⟨A', n', cap', w', hrun, h2, h3, h4, h5⟩ := run_append_rd (P := P) base t o.type e i z size bytes ht hi hz hsize hby hzs hsz hown hr h1 h63 hbytes hbase
  rw [if_pos (by simp [Region.wanted, hgd])]
  unfold Oper.wp execOp
  simp only [ho, resolve, invoke, builtin, Sem.run_bind, Sem.run_pure, Result.andThen_ok, List.map_toArray, List.map_cons, List.map_nil, hs, hx, hrun]
  exact h A' n' cap' w' h2 h3 h4 h5

theorem put2 (k : Nat) (w : World) :
    Calls Try.prog 7 #[.slice none 0 0, .int .u64 (k : Int), .int .i64 2] w fun e w' => ∃ A' c', e = .returned (.slice A' 2 c') ∧ w'.ownsRow w.heap.size 5 1 (.slice A' 2 c') 2 (bvs (be 2 k)) ∧ Ext w w' := by
  refine (put_any none 0 0 [] k 2 2 (by omega) (by omega) (by omega) w (Rd.nil_ _ _)).mono ?_
  rintro e w' ⟨A', n', c', rfl, ho, hx⟩
  rw [List.nil_append] at ho
  obtain rfl : n' = 2 := by have := (Rd.of_own ho).blen; rw [be_length] at this; omega
  exact ⟨A', c', rfl, ho, hx⟩
theorem putSums_lit (A2 : Option Addr) (m2 cap2 : Nat) (l2 : List UInt8) (h : m2 ≤ 65535) (M : Nat) (hM : 2 + 32 * m2 = M) (w : World) (hr2 : Rd w 32 A2 m2 cap2 (bvs l2)) :
    Calls Try.prog 12 #[.slice none 0 0, .slice A2 m2 cap2] w fun e w' => ∃ A' c', e = .returned (.slice A' M c') ∧ Rd w' 1 A' M c' (bvs (be 2 m2 ++ l2)) ∧ Ext w w' := by
  refine (putSums_any none 0 0 [] A2 m2 cap2 l2 (by omega) w (Rd.nil_ _ _) hr2).mono ?_
  rintro e w' ⟨A', n', c', rfl, ho, hx⟩
  have hl2 : l2.length = m2 * 32 := by have := hr2.len; rwa [bvs_length] at this
  rw [Nat.min_eq_left h, List.take_of_length_le (by omega), List.nil_append] at ho
  have h' := (Rd.of_own ho).clip
  obtain rfl : n' = M := by have := h'.blen; rw [List.length_append, be_length] at this; omega
  exact ⟨A', _, rfl, h', hx⟩
theorem sums_take (k : Nat) (hk : k < 65536) (l : List UInt8) : ofBe ((be 2 k ++ l).take 2) = k := by
  rw [List.take_left' (be_length _ _), ofBe_be]; exact Nat.mod_eq_of_lt (by simpa using hk)
theorem sums_drop (k : Nat) (l : List UInt8) : (be 2 k ++ l).drop 2 = l := List.drop_left' (be_length _ _)
theorem sums_drop2 (k m : Nat) (l : List UInt8) : (be 2 k ++ l).drop (2 + m) = l.drop m := by
  rw [← List.drop_drop, sums_drop]
theorem sameSums_lit (A1 : Option Addr) (n1 c1 : Nat) (l : List UInt8) (A2 : Option Addr) (n2 c2 : Nat) (w : World) (h1 : Rd w 32 A1 n1 c1 (bvs l)) (h2 : Rd w 32 A2 n2 c2 (bvs l)) :
    Calls Try.prog 14 #[.slice A1 n1 c1, .slice A2 n2 c2] w fun e w' => e = .returned (.bool true) ∧ Ext w w' := by
  refine (sameSums_any A1 n1 c1 l A2 n2 c2 l w h1 h2).mono ?_
  rintro e w' ⟨rfl, d, rfl⟩
  exact ⟨by simp, (Ext.refl _).drewN _⟩
theorem info_sums : (Try.prog.info? 54).map (·.size) = some 32 := by kernel_rfl

set_option maxRecDepth 100000 in
set_option maxHeartbeats 400000 in
theorem sums_long (A : Option Addr) (n cap : Nat) (l : List UInt8) (t c : Int) (w : World) (hr : Rd w 32 A n cap (bvs l)) (h : 600 < n) :
    Calls Try.prog 6 #[.slice A n cap, .int .u16 t, .int .u16 c] w fun e w' => e = .returned (.bool true) ∧ Ext w w' := by
  have hb : (600 : Int) < n := by omega
  have := hr.le
  have := hr.top
  go_enter Try.func6, Try.ntmps6
  go_wp2_with (fail)
  refine (alive_any _).mono ?_
  rintro e w1 ⟨rfl, x1⟩
  go_wp2
  go_ret
  exact ⟨rfl, x1⟩

set_option maxRecDepth 100000 in
set_option maxHeartbeats 400000 in
theorem sums_walk (A : Option Addr) (n cap : Nat) (l : List UInt8) (t c : Int) (ht0 : 0 ≤ t) (ht1 : t ≤ 65535) (hc0 : 0 ≤ c) (hc1 : c ≤ 65535) (k M m1 j r R : Nat) (w : World) (hr : Rd w 32 A n cap (bvs l)) (h : n ≤ 600)
    (hk : t % ((n : Int) + 1) = (k : Int)) (hM : 2 + 32 * (k : Int) = (M : Int)) (hm1 : 2 + 32 * (n : Int) = (m1 : Int)) (hj : c % (m1 : Int) = (j : Int)) (hsub : (n : Int) - (k : Int) = (r : Int)) (hR : 2 + 32 * (r : Int) = (R : Int)) :
    Calls Try.prog 6 #[.slice A n cap, .int .u16 t, .int .u16 c] w fun e w' => e = .returned (.bool true) ∧ Ext w w' := by
  have hkn : k ≤ n := by
    have := Int.emod_lt_of_pos t (show (0 : Int) < (n : Int) + 1 by omega)
    omega
  have hjm : j < m1 := by
    have := Int.emod_lt_of_pos c (show (0 : Int) < (m1 : Int) by omega)
    omega
  have hl : l.length = n * 32 := by have := hr.len; rwa [bvs_length] at this
  have Hl := Lib.hid hl
  clear hl
  go_enter Try.func6, Try.ntmps6
  go_wp2_with (fail)
  refine (putSums_lit A n cap l (by omega) m1 (by omega) _ hr).mono ?_
  rintro e w1 ⟨A1, c1, rfl, r1, x1⟩
  obtain ⟨A2, n2, c2, hcut, hn2, -, r2⟩ := cut_l Try.underlying23 info_u8s r1 .i64 2 (by omega)
  obtain rfl := hn2
  rw [Nat.mul_one, ← bvs_drop, sums_drop] at r2
  have hcut : ∀ W, (Instr.slice 23 (.slice A1 m1 c1) (some (.int .i64 2)) none none).run Try.prog W = .ok (.slice A2 (m1 - 2) c2) W := hcut
  obtain ⟨A7, n7, c7, hcut7, hn7, -, r7⟩ := cut_h Try.underlying37 info_sums hr .i64 k hkn
  subst hn7
  rw [← bvs_take] at r7
  obtain ⟨A8, n8, c8, hcut8, hn8, -, r8⟩ := cut_l Try.underlying37 info_sums hr .i64 n7 hkn
  obtain rfl := hn8
  rw [← bvs_drop] at r8
  obtain ⟨A9, n9, c9, hcut9, hn9, -, r9⟩ := cut_l Try.underlying23 info_u8s r1 .i64 M (by omega)
  obtain rfl := hn9
  rw [Nat.mul_one, ← bvs_drop, show M = 2 + n7 * 32 by omega, sums_drop2, show 2 + n7 * 32 = M by omega] at r9
  obtain ⟨A10, n10, c10, hcut10, hn10, -, r10⟩ := cut_h Try.underlying23 info_u8s r1 .i64 j (by omega)
  subst hn10
  rw [Nat.mul_one, ← bvs_take] at r10
  have hcut7 : ∀ W, (Instr.slice 37 (.slice A n cap) none (some (.int .i64 n7)) none).run Try.prog W = .ok (.slice A7 n7 c7) W := hcut7
  have hcut8 : ∀ W, (Instr.slice 37 (.slice A n cap) (some (.int .i64 n7)) none none).run Try.prog W = .ok (.slice A8 (n - n7) c8) W := hcut8
  have hcut9 : ∀ W, (Instr.slice 23 (.slice A1 m1 c1) (some (.int .i64 M)) none none).run Try.prog W = .ok (.slice A9 (m1 - M) c9) W := hcut9
  have hcut10 : ∀ W, (Instr.slice 23 (.slice A1 m1 c1) none (some (.int .i64 n10)) none).run Try.prog W = .ok (.slice A10 n10 c10) W := hcut10
  have hwk : IntKind.u64.wrap (n7 : Int) = (n7 : Int) := by rw [IntKind.wrap_u64]; omega
  have hwr : IntKind.u64.wrap (r : Int) = (r : Int) := by rw [IntKind.wrap_u64]; omega
  have hwi : IntKind.i64.wrap (r : Int) = (r : Int) := by rw [IntKind.wrap_i64]; omega
  go_wp2_with (fail)
  go_region_held3 (fun W => Ext w1 W) (first | assumption | exact (Ext.refl _).drew)
    (first
      | (go_at_call 7; refine (put2 n7 _).mono ?_; rintro e w2 ⟨A3, c3, rfl, ho3, x2⟩; replace x2 : Ext w1 w2 := Ext.trans (by assumption) x2)
      | (go_at_call 13; rw [← bvs_append] at ho4; refine (getSums_lit A4 n4 c4 _ (l.take (n7 * 32)) n7 (M : Int) w3 (Rd.of_own ho4) (by rw [sums_take n7 (by omega), hn4.out]; omega) (sums_take n7 (by omega) _) (by omega) (by rw [sums_drop])).mono ?_; rintro e w4 ⟨A5, rfl, r5, x4⟩; replace x4 : Ext w1 w4 := Ext.trans (by assumption) x4)
      | (refine step_append rfl (.tmp 40) (.tmp 42) _ rfl Try.underlying23 info_u8 rfl (by decide) rfl rfl ho3 (r2.ext x2) (bvs_oneCell _) (by simp only [maxLen]; omega) (by omega) x2.size ?_; intro A4 n4 c4 w3 hn4 ho4 hg4 _; have x3 : Ext w1 w3 := x2.grown hg4 (own_block_ge ho3)))
  clear hcut ho3 ho4 hg4 hn4 x2 x3
  go_wp2_with (fail)
  refine (sameSums_lit _ _ _ _ _ _ _ _ r5 (r7.ext (x1.trans x4))).mono ?_
  rintro e w5 ⟨rfl, x5⟩
  replace x5 := x4.trans x5
  clear r5 r7 x4
  go_wp2_with (fail)
  go_region_held3 (fun W => Ext w1 W) (first | assumption | exact x5.drew)
    (first
      | (go_at_call 7; refine (put2 r _).mono ?_; rintro e w2 ⟨A3, c3, rfl, ho3, x2a⟩; have x2 : Ext w1 w2 := Ext.trans (by assumption) x2a)
      | (go_at_call 13; rw [← bvs_append] at ho4; refine (getSums_lit A4 n4 c4 _ (l.drop (n7 * 32)) r (R : Int) w3 (Rd.of_own ho4) (by rw [sums_take r (by omega), hn4.out]; omega) (sums_take r (by omega) _) (by omega) (by rw [sums_drop, List.take_of_length_le (by rw [List.length_drop, Hl.out]; omega)])).mono ?_; rintro e w4 ⟨A5, rfl, r5, x4⟩; replace x4 : Ext w1 w4 := Ext.trans (by assumption) x4)
      | (refine step_append rfl (.tmp 71) (.tmp 74) _ rfl Try.underlying23 info_u8 rfl (by decide) rfl rfl ho3 (r9.ext x2) (bvs_oneCell _) (by simp only [maxLen]; omega) (by omega) x2a.size ?_; intro A4 n4 c4 w3 hn4 ho4 hg4 _; have x3 : Ext w1 w3 := x2.grown hg4 (fun k hk => Nat.le_trans x5.size (own_block_ge ho3 k hk))))
  clear hcut9 ho3 ho4 hg4 hn4 x2 x3
  go_wp2_with (fail)
  refine (getSums_none _ _ _ _ _ (r10.ext x4) ?_).mono ?_
  · rw [List.take_take]
    by_cases hj2 : n10 < 2
    · exact .inl hj2
    · right
      rw [Nat.min_eq_left (by omega), sums_take n (by omega)]
      omega
  rintro e w6 ⟨A6, rfl, x6⟩
  go_wp2_with (fail)
  refine (alive_any _).mono ?_
  rintro e w7 ⟨rfl, x7⟩
  go_wp2_with (fail)
  refine (sameSums_lit _ _ _ _ _ _ _ _ ((r5.ext x6).ext x7) (r8.ext (x1.trans (x4.trans (x6.trans x7))))).mono ?_
  rintro e w8 ⟨rfl, x8⟩
  go_wp2_with (fail)
  go_ret
  exact ⟨by first | rfl | trivial, x1.trans (x4.trans (x6.trans (x7.trans x8)))⟩
theorem sums_all (w : World) (A : Option Addr) (n cap : Nat) (l : List UInt8) (hr : Rd w 32 A n cap (bvs l)) (t : Int) (wt : (Lit.int .u16 t).wf = true) (c : Int) (wc : (Lit.int .u16 c).wf = true) :
    Calls Try.prog 6 #[.slice A n cap, .int .u16 t, .int .u16 c] w fun e w' => e = .returned (.bool true) ∧ Ext w w' := by
  have h1 := bounds_u16 wt
  have h2 := bounds_u16 wc
  by_cases h : n ≤ 600
  · obtain ⟨k, hk⟩ := Int.eq_ofNat_of_zero_le (Int.emod_nonneg t (show (n : Int) + 1 ≠ 0 by omega))
    obtain ⟨j, hj⟩ := Int.eq_ofNat_of_zero_le (Int.emod_nonneg c (show ((2 + 32 * n : Nat) : Int) ≠ 0 by omega))
    have := Int.emod_lt_of_pos t (show (0 : Int) < (n : Int) + 1 by omega)
    exact sums_walk A n cap l t c h1.1 h1.2 h2.1 h2.2 k (2 + 32 * k) (2 + 32 * n) j (n - k) (2 + 32 * (n - k)) w hr h hk (by omega) (by omega) hj (by omega) (by omega)
  · exact sums_long A n cap l t c w hr (by omega)
end Go.Proofs.Ytadmpfieejddmaa
