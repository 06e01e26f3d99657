/-
  What the contracts of package nums share.
  Contracts of package nums.
  Contracts of package nums, the others.
-/
import Derived.Test.YtdnioigcgggdbaaGreatDoorProg
import Derived.Test.YtdnioigcgggdbaaGreatDoorMaa
import Derived.Test.YtdnioigcgggdbaaGreatDoorMag
import Derived.RangeFuncBox
import Derived.RangeFuncNested
import Derived.RangeFuncLeaves
import Derived.Shelf.Abstract
import Derived.OwnWalkIn
import Derived.TacticsInMore
import Derived.LoopNIn
import Derived.LoopIn
import Derived.Lib.MinMax
set_option linter.unusedVariables false
set_option linter.unusedSimpArgs false
namespace Go.Proofs.YtdnioigcgggdbaaGreatDoor
open Go.RowKit Go.Shelf
attribute [local go_sem] Oper.semAt_some

/-- a box holds what it held. -/
def SameBox (b : Nat) (W W' : World) : Prop := W'.cell? ⟨b, 0, none⟩ = W.cell? ⟨b, 0, none⟩
theorem digit_val (x k j : Nat) (h : j < k) : bv (UInt8.ofNat (x / 256 ^ (k - 1 - j))) = .int .u8 ((x : Int) / 2 ^ (8 * k - 8 - 8 * j) % 256) := by
  have e : (256 : Nat) ^ (k - 1 - j) = 2 ^ (8 * k - 8 - 8 * j) := by
    rw [show (256 : Nat) = 2 ^ 8 from rfl, ← Nat.pow_mul]; congr 1; omega
  unfold bv
  rw [e, UInt8.toNat_ofNat']
  simp
theorem take_be (x k j : Nat) (h : j < k) : (be k x).take j ++ [UInt8.ofNat (x / 256 ^ (k - 1 - j))] = (be k x).take (j + 1) := by
  rw [List.take_add_one, be_getElem? h]; rfl

theorem info_u8 : (Tryz.prog.info? 5).map (fun i => (i.zero, i.size, i.bytes)) = some (some (.int .u8 0), 1, 1) := by kernel_rfl
end Go.Proofs.YtdnioigcgggdbaaGreatDoor
namespace Go.Proofs.YtdnioigcgggdbaaGreatDoor
open Go.RowKit Go.Shelf
attribute [local go_sem] Oper.semAt_some

set_option maxRecDepth 100000 in
set_option maxHeartbeats 1000000 in
/-- the digits' iterator, one call. -/
theorem digits1_in (F : Fence) (n : Nat) (h6 : F.fn 139) (hro : F.round = none) (hn : 1 ≤ n) (l Bb Bn : Nat) (k x : Nat) (hk : k ≤ 8) (J Jx : List UInt8 → World → Prop)
    (hY : ∀ pre x W, J pre W → pre.length < k → YieldAt F (n - 1) Tryz.prog l #[bv x] W fun e W' =>
      (e = .returned (.bool true) ∧ J (pre ++ [x]) W' ∧ SameBox Bn W W') ∨ (e = .returned (.bool false) ∧ Jx (pre ++ [x]) W'))
    (W : World) (hBb : W.cell? ⟨Bb, 0, none⟩ = some (.int .i64 (k : Int))) (hBn : W.cell? ⟨Bn, 0, none⟩ = some (.int .u64 (x : Int))) (h0 : J [] W) :
    CallsIn F n Tryz.prog 139 #[.func (.yield l) #[] #[], .pointer (some ⟨Bb, 0, none⟩), .pointer (some ⟨Bn, 0, none⟩)] W fun e W' => (∃ v, e = .returned v) ∧
      ((∃ ys, ys = be k x ∧ J ys W') ∨ (∃ pre, pre <+: be k x ∧ Jx pre W')) := by
  refine callsIn_of_wp Tryz.func139 rfl h6 ?_ hro
  simp only [Tryz.ntmps139, List.size_toArray, List.length_cons, List.length_nil, Nat.reduceAdd, Nat.reduceSub, Array.replicate_succ, Array.replicate_zero, List.push_toArray, List.append_toArray, List.nil_append, List.cons_append]
  gi_wp2

  gi_loopw [4] (fun p wr => ∃ j : Nat, j ≤ k ∧ p = .int .i64 (8 * (k : Int) - 8 - 8 * (j : Int)) ∧ wr.cell? ⟨Bn, 0, none⟩ = some (.int .u64 (x : Int)) ∧ J ((be k x).take j) wr)
    (fun p _ => (intOf p + 8).toNat)
  case atStart =>
    exact ⟨0, by omega, by congr 1; omega, hBn, by simpa using h0⟩
  case round =>
    obtain ⟨j, hj, rfl, hc, hJ⟩ := hrel
    by_cases hlt : j < k
    · obtain ⟨fn, tmps, assign, body, hy, hR⟩ := hY _ (UInt8.ofNat (x / 256 ^ (k - 1 - j))) wr hJ (by rw [List.length_take, be_length]; omega)
      rw [digit_val x k j hlt] at hy
      rw [take_be x k j hlt] at hR
      gi_wp2
      refine hR.mono ?_
      rintro e W3 (⟨rfl, hJ3, hk3⟩ | ⟨rfl, hJx3⟩)
      · have hc3 : W3.cell? ⟨Bn, 0, none⟩ = some (.int .u64 (x : Int)) := hk3.trans hc
        gi_wp2
        go_roundw
        case rel => exact ⟨j + 1, by omega, by congr 1; omega, hc3, hJ3⟩
        case measure => simp [intOf]; omega
      · gi_wp2
        refine bodyPost_ret (results_none rfl _ _ _) rfl ?_
        exact ⟨⟨_, rfl⟩, .inr ⟨_, List.take_prefix _ _, hJx3⟩⟩
    · gi_wp2
      go_end0
      have : k ≤ j := by omega
      rw [List.take_of_length_le (by rw [be_length]; exact this)] at hJ
      exact ⟨⟨_, rfl⟩, .inl ⟨_, rfl, hJ⟩⟩

set_option maxHeartbeats 1000000 in
theorem digits_in (F : Fence) (n : Nat) (h5 : F.fn 130) (hro : F.round = none) (x k : Int) (w : World) :
    CallsIn F n Tryz.prog 130 #[.int .u64 x, .int .i64 k] w fun e w' => e = .returned (.func (.func 139) #[] #[.pointer (some ⟨w.heap.size + 1, 0, none⟩), .pointer (some ⟨w.heap.size, 0, none⟩)]) ∧
      w' = (w.alloc (.cells #[.int .u64 x] 89)).alloc (.cells #[.int .i64 k] 3) := by
  refine callsIn_of_wp Tryz.func130 rfl h5 ?_ hro
  simp only [Tryz.ntmps130, List.size_toArray, List.length_cons, List.length_nil, Nat.reduceAdd, Nat.reduceSub, Array.replicate_succ, Array.replicate_zero, List.push_toArray, List.append_toArray, List.nil_append, List.cons_append]
  gi_wp2
  go_ret
  exact ⟨rfl, rfl⟩

theorem digits_stops (F : Fence) (n : Nat) (h6 : F.fn 139) (hro : F.round = none) (hn : 1 ≤ n) (Bb Bn k x : Nat) (hk : k ≤ 8) (w : World) (hBb : Bb < w.heap.size) (hBn : Bn < w.heap.size)
    (hc : w.cell? ⟨Bb, 0, none⟩ = some (.int .i64 (k : Int))) (hd : w.cell? ⟨Bn, 0, none⟩ = some (.int .u64 (x : Int))) :
    SeqStopsK F n Tryz.prog 139 #[.pointer (some ⟨Bb, 0, none⟩), .pointer (some ⟨Bn, 0, none⟩)] (fun b : UInt8 => #[.int .u8 (b.toNat : Int)]) (SameBox Bn) (fun ys => ys = be k x) (fun pre => pre <+: be k x) k w := fun l J Jx W hW _ _ hY h0 =>
  digits1_in F n h6 hro hn l Bb Bn k x hk J Jx hY W ((hW.cell (p := ⟨Bb, 0, none⟩) hBb).trans hc) ((hW.cell (p := ⟨Bn, 0, none⟩) hBn).trans hd) h0


theorem wplIn_append {F : Fence} {f : Nat} {P : Program} {w : World} {ops : Array Oper} {rest : List Oper} {o : Oper} {a : Act} {Q : Exit → Act → World → Prop} (hgd : o.guard = none) (s x : Operand) (t : TypeId)
    (hop : o.op = .call { callee := .builtin .append, args := #[s, x], argTypes := #[t, t] })
    {e : TypeId} {z : Value} {size bytes : Nat} (ht : P.underlying t = some (.slice e)) (hinfo : (P.info? e).map (fun i => (i.zero, i.size, i.bytes)) = some (some z, size, bytes))
    (hzs : z.cells.size = size) (hsz : 0 < size)
    {A : Option Addr} {n cap : Nat} (hs : a.eval s = .slice A n cap) {A2 : Option Addr} {m c : Nat} (hx : a.eval x = .slice A2 m c)
    {base : Nat} {xs ys : List Value} (hown : w.ownsRow base e size (.slice A n cap) n xs) (hr : Rd w size A2 m c ys) (h1 : ∀ u ∈ ys, u.oneCell' = true)
    (h63 : n + m ≤ maxLen) (hbytes : (n + m) * bytes ≤ 140737488355328) (hbase : base ≤ w.heap.size)
    (h : ∀ A' n' cap' w', Hid (n' = n + m) → w'.ownsRow base e size (.slice A' n' cap') n' (xs ++ ys) → w.grownBy w' (Value.slice A n cap).ownBlock →
      ((Value.slice A' n' cap').ownBlock = (Value.slice A n cap).ownBlock ∨ (Value.slice A' n' cap').ownBlock = some w.heap.size) → wpListIn F f P ops Q rest (a.put o.dst (.slice A' n' cap')) w') : wpListIn F f P ops Q (o :: rest) a w := by
  obtain ⟨i, hi, hz, hsize, hby⟩ := info_parts hinfo
  obtain ⟨A', n', cap', w', hrun, h2, h3, h4, h5⟩ := run_append_rd (P := P) base t o.type e i z size bytes ht hi hz hsize hby hzs hsz hown hr h1 h63 hbytes hbase
  refine wpListIn_plain hgd fun K hK' => ?_
  unfold Oper.wpIn
  refine ⟨?_, ?_⟩
  · simp [Oper.about, hop, resolve, Target.leads, Sem.run_pure]
  · rw [Oper.semAt_plain F _ _ (by rw [hop]; intro c hc'; cases hc')]
    simp [execOp, hop, resolve, invoke, builtin, hs, hx, hrun, Result.andThen, Oper.uponIn]
    exact hK' _ _ (h A' n' cap' w' h2 h3 h4 h5)

set_option maxRecDepth 100000 in
set_option maxHeartbeats 2000000 in
theorem put_in (F : Fence) (n : Nat) (hf : F = Fence.wide) (hn : 3 ≤ n) (A : Option Addr) (m cap : Nat) (l : List UInt8) (x k : Nat) (K : Int) (hk : k ≤ 8) (hK : max 0 (min K 8) = (k : Int)) (hm : m ≤ 70368744177664) (w : World) (hr : Rd w 1 A m cap (bvs l)) :
    CallsIn F n Tryz.prog 103 #[.slice A m cap, .int .u64 x, .int .i64 K] w fun e w' => ∃ A' m' cap', e = .returned (.slice A' m' cap') ∧
      w'.ownsRow w.heap.size 5 1 (.slice A' m' cap') m' (bvs (l ++ be k x)) ∧ Ext w w' := by
  have h1 : 1 ≤ n := by omega
  have hro : F.round = none := by rw [hf]; rfl
  have hfn : ∀ f, F.fn f := by intro f; rw [hf]; trivial
  clear hf
  refine callsIn_of_wp_marks Tryz.func103 rfl (hfn _) ?_ hro
  simp only [Tryz.ntmps103, List.size_toArray, List.length_cons, List.length_nil, Nat.reduceAdd, Nat.reduceSub, Array.replicate_succ, Array.replicate_zero, List.push_toArray, List.append_toArray, List.nil_append, List.cons_append]
  obtain ⟨i0, hi, hz0, hz1, hz2⟩ := info_parts info_u8
  have hl := hr.blen
  gi_wp2_with (first
    | (gi_at_call 130; refine (digits_in F (n - 1) (hfn _) hro _ _ _).mono ?_; rintro e w' ⟨rfl, rfl⟩)
    | (gi_at_make; refine wpListIn_make_own _ rfl _ _ 50 rfl w.heap.size 5 i0 (.int .u8 0) 1 Tryz.underlying50 hi hz0 hz1 _ _ _ (m + k) rfl rfl (by omega) (by rw [hz2]; omega) (by simp only [maxLen]; omega) (Nat.le_refl _) ?_; intro w1 hown1 hg1)
    | (gi_at_builtin; refine wplIn_append rfl _ _ _ rfl Tryz.underlying50 info_u8 rfl (by decide) rfl rfl hown1 (hr.grown hg1 (by simp)) (bvs_oneCell _) (by simp only [maxLen]; omega) (by omega) hg1.size ?_; intro A2 n2 c2 w2 hn2 hown2 hg2 _))
  obtain rfl : n2 = m := by have := hn2.out; omega
  clear hn2
  rw [List.nil_append] at hown2
  have hb2 : Below w.heap.size w w2 := ((Below.refl _ w).grown hg1 (Nat.le_refl _) (by simp)).grown hg2 hg1.size (by simp [Value.ownBlock])
  have hwD : w.heap.size ≤ w2.heap.size := hb2.size
  have bO := Boxed.new w2 50 (.slice A2 n2 c2)
  have bN := Boxed.new (w2.alloc (.cells #[.slice A2 n2 c2] 50)) 89 (.int .u64 (x : Int))
  have bB := Boxed.new ((w2.alloc (.cells #[.slice A2 n2 c2] 50)).alloc (.cells #[.int .u64 (x : Int)] 89)) 3 (.int .i64 (k : Int))
  rw [World.size_alloc] at bN
  rw [World.size_alloc, World.size_alloc] at bB
  refine wpIn_rangeFunc_ownG hro h1 (gf := 139) (lb := #[.pointer (some ⟨w2.heap.size + 1 + 1, 0, none⟩), .pointer (some ⟨w2.heap.size + 1, 0, none⟩)]) rfl (hfn _) (enters_of Tryz.func139 (by kernel_rfl) rfl)
    (digits_stops F (n - 1) (hfn _) hro (by omega) (w2.heap.size + 1 + 1) (w2.heap.size + 1) k x hk _ (by simp) (by simp) bB.cell (bN.alloc _).cell)
    (fun h1 h2 => h2.trans h1)
    (fun W l o o' hl h hc _ => World.cell?_of_block (World.putObj_heap_other (by simp at hl; simp; omega)))
    (Below.refl _ _) (fun _ => rfl)
    (fun pre W => (∃ v, Boxed W w2.heap.size 50 v ∧ W.ownsRow w.heap.size 5 1 v (n2 + pre.length) (bvs (l ++ pre)) ∧ True) ∧ Boxed W (w2.heap.size + 1) 89 (.int .u64 (x : Int)) ∧ Below w.heap.size w W)
    (fun _ _ _ => False)
    (OwnFrom.and (Own.from (holdsRow_own w.heap.size w2.heap.size 50 5 1 (fun pre => n2 + pre.length) (fun pre => bvs (l ++ pre)) (fun _ _ => True)) _)
      (OwnFrom.and (Own.from (boxed_own _ _ _) _) (ownFrom_below (Nat.le_refl _) (by simp; omega))))
    (fun _ _ _ _ _ hs _ _ => hs)
    ⟨⟨_, (bO.alloc _).alloc _, by simpa using ((hown2.alloc _).alloc _).alloc _, trivial⟩, bN.alloc _, (((hb2.alloc hb2.size _).alloc (by simp; omega) _).alloc (by simp; omega) _)⟩
    (fun b => { tmps := #[.slice A n2 cap, .int .u64 (x : Int), .int .i64 (k : Int), undef, undef, undef, .slice none 0 0, .pointer (some ⟨w2.heap.size, 0, none⟩), .int .u8 (b.toNat : Int), .int .i64 K, .int .i64 (min K 8), .int .i64 (k : Int), .slice A n2 cap, .int .i64 (n2 : Int), .int .i64 (k : Int), .int .i64 ((n2 : Int) + (k : Int)), .slice (some ⟨w.heap.size, 0, none⟩) 0 (n2 + k), .slice A n2 cap, .slice A2 n2 c2, .int .u64 (x : Int), .int .i64 (k : Int), .func (.func 139) #[] #[.pointer (some ⟨w2.heap.size + 1 + 1, 0, none⟩), .pointer (some ⟨w2.heap.size + 1, 0, none⟩)], .int .u8 (b.toNat : Int), undef, undef, undef, undef, undef], defers := [] }) ?assign ?body ?done ?stop
  case assign =>
    intro l x W K hK
    gi_wp2
    exact hK
  case body =>
    rintro lp pre b W ⟨⟨v, hv, hrow, _⟩, hbn, hB⟩ hlt
    have hc := hv.cell
    gi_wp2_with (gi_at_builtin; refine wpListIn_append_own _ rfl _ _ 50 rfl w.heap.size 5 i0 (.int .u8 0) 1 1 Tryz.underlying50 hi hz0 hz1 hz2 rfl (by decide) _ _ _ rfl (hrow.alloc _) ⟨W.heap.size, 0, none⟩ 1 1 [bv b] rfl rfl (cell_one_new _ _ _) (by simp [bv, Value.oneCell']) (by simp only [maxLen]; omega) (by omega) (by have := hB.size; simp; omega) ?_; intro v' w1 hown' hgrow _; obtain ⟨g', cap', rfl⟩ := ownsRow_succ hown'; obtain ⟨hv1, hv2, hr2, hk2, hb2⟩ := hv.appended (by decide) hrow hB.size hwD hown' hgrow; have hc1 := hv1.cell; have hf1 := hv1.frozen)
    have hbn2 := Boxed.other ((hbn.alloc _).kept hgrow (hbn.not_row (by decide) hrow)) (show w2.heap.size + 1 ≠ w2.heap.size by omega) (Value.slice (some ⟨g', 0, none⟩) (n2 + pre.length + 1) cap')
    exact ⟨hk2.from _, hbn2.cell.trans hbn.cell.symm, ⟨_, hv2, by simpa [bvs, Nat.add_assoc] using hr2, trivial⟩, hbn2, hB.trans hb2⟩
  case done =>
    rintro D ys W hD rfl ⟨⟨v, hv, hrow, _⟩, hbn, hB⟩ hK
    have hc := hv.cell
    obtain ⟨A', c', rfl⟩ := own_shape hrow
    gi_wp2
    refine ⟨by simp, .inl ⟨_, _, rfl, run_takeDeferred hK, ?_⟩⟩
    exact ⟨_, results_tmp rfl _ _ _, _, _, _, rfl, ownsRow_putObj hrow _ hK rfl, hB.trans (belowK_b (w := w) (Nat.le_refl _) W D _ _ (by simp at hD; omega) hK rfl rfl)⟩
  case stop =>
    rintro D c pre W _ _ h _
    exact h.elim

/-- **nums.Put**: b's bytes, and behind them n's, the highest first, in new memory. -/
theorem put_any (A : Option Addr) (m cap : Nat) (l : List UInt8) (x k : Nat) (K : Int) (hk : k ≤ 8) (hK : max 0 (min K 8) = (k : Int)) (hm : m ≤ 70368744177664) (w : World) (hr : Rd w 1 A m cap (bvs l)) :
    Calls Tryz.prog 103 #[.slice A m cap, .int .u64 x, .int .i64 K] w fun e w' => ∃ A' m' cap', e = .returned (.slice A' m' cap') ∧
      w'.ownsRow w.heap.size 5 1 (.slice A' m' cap') m' (bvs (l ++ be k x)) ∧ Ext w w' :=
  callsIn_wide.1 (put_in Fence.wide 3 rfl (Nat.le_refl _) A m cap l x k K hk hK hm w hr)
#print axioms put_any
end Go.Proofs.YtdnioigcgggdbaaGreatDoor
namespace Go.Proofs.YtdnioigcgggdbaaGreatDoor
open Go.RowKit

/-- what nums.Get answers. -/
def getR (l : List UInt8) (K : Int) : Nat × Int :=
  if K < 0 ∨ 8 < K then (0, 1) else if (l.length : Int) < K then (0, 5) else (ofBe (l.take K.toNat), 0)

theorem get_step (l : List UInt8) (k j : Nat) (h : j < k) (hk : k ≤ l.length) :
    ofBe ((l.take k).drop (k - (j + 1))) = (l[k - 1 - j]?.getD 0).toNat * 256 ^ j + ofBe ((l.take k).drop (k - j)) := by
  have e1 : k - (j + 1) < (l.take k).length := by rw [List.length_take]; omega
  rw [List.drop_eq_getElem_cons e1, ofBe_cons, List.length_drop, List.length_take]
  have e2 : k - (j + 1) + 1 = k - j := by omega
  have e3 : min k l.length - (k - j) = j := by omega
  rw [e2, e3, List.getElem_take]
  have e4 : k - 1 - j = k - (j + 1) := by omega
  rw [e4, List.getElem?_eq_getElem (by omega)]
  rfl

theorem or_val {t j : Nat} {b : UInt8} (ht : t < 256 ^ j) (hj : j < 8) : bits .or .u64 (t : Int) (IntKind.u64.wrap ((b.toNat : Int) * 2 ^ (j * 8))) = ((t ||| b.toNat <<< (8 * j) : Nat) : Int) := by
  have hb := b.toNat_lt
  have e : (b.toNat : Int) * 2 ^ (j * 8) = ((b.toNat * 2 ^ (8 * j) : Nat) : Int) := by rw [Nat.mul_comm 8 j]; simp
  have h2 : (2 : Nat) ^ (8 * j) ≤ 2 ^ 56 := Nat.pow_le_pow_right (by omega) (by omega)
  have h3 : b.toNat * 2 ^ (8 * j) ≤ 255 * 2 ^ 56 := Nat.mul_le_mul (by omega) h2
  have h4 : (256 : Nat) ^ j ≤ 256 ^ 7 := Nat.pow_le_pow_right (by omega) (by omega)
  rw [e, IntKind.wrap_u64, Int.emod_eq_of_lt (by omega) (by omega), u64_or_nat _ _ (by omega) (by omega), Nat.shiftLeft_eq]

set_option maxHeartbeats 400000 in
theorem get_any (A : Option Addr) (n cap : Nat) (l : List UInt8) (K : Int) (w : World) (hr : Rd w 1 A n cap (bvs l)) :
    Calls Tryz.prog 144 #[.slice A n cap, .int .i64 K] w fun e w' => e = .returned (.tuple #[.int .u64 ((getR l K).1 : Int), .int .i64 (getR l K).2]) ∧ w = w' := by
  have hn := hr.le
  have hc := hr.top
  have hl := hr.blen
  unfold maxLen at hc
  by_cases h1 : K < 0 ∨ 8 < K
  · have e : getR l K = (0, 1) := by unfold getR; rw [if_pos h1]
    rw [e]
    clear e hr
    go_enter Tryz.func144, Tryz.ntmps144
    go_wp2
    all_goals (go_ret2; exact ⟨rfl, rfl⟩)
  · by_cases h2 : (l.length : Int) < K
    · have e : getR l K = (0, 5) := by unfold getR; rw [if_neg h1, if_pos h2]
      rw [e]
      clear e hr
      go_enter Tryz.func144, Tryz.ntmps144
      go_wp2
      all_goals (go_ret2; exact ⟨rfl, rfl⟩)
    · have e : getR l K = (ofBe (l.take K.toNat), 0) := by unfold getR; rw [if_neg h1, if_neg h2]
      rw [e]
      clear e
      obtain ⟨k, rfl⟩ := Int.eq_ofNat_of_zero_le (show 0 ≤ K by omega)
      simp only [Int.toNat_natCast]
      have hk8 : k ≤ 8 := by omega
      have hkn : k ≤ n := by omega
      have Hl := Lib.hid hl
      clear hl h1 h2
      go_enter Tryz.func144, Tryz.ntmps144
      go_wp2
      go_loop [4, 6, 18] (fun s _ i => ∃ j : Nat, j ≤ k ∧ i = .int .i64 j ∧ s = .int .u64 (ofBe ((l.take k).drop (k - j)) : Nat)) (fun _ _ i => k - (intOf i).toNat)
      case atStart => exact ⟨0, Nat.zero_le _, rfl, by rw [List.drop_of_length_le (by rw [List.length_take]; omega)]; rfl⟩
      case round =>
        obtain ⟨j, hj, rfl, rfl⟩ := hrel
        by_cases hlt : j < k
        · obtain ⟨b, o, rfl, g1⟩ := hr.byte (k := k - 1 - j) (by omega)
          have st := Lib.hid (get_step l k j hlt (by have := Hl.out; omega))
          have hlt8 : ofBe ((l.take k).drop (k - j)) < 256 ^ j := by
            have := ofBe_lt ((l.take k).drop (k - j))
            have e : ((l.take k).drop (k - j)).length = j := by rw [List.length_drop, List.length_take]; have := Hl.out; omega
            rwa [e] at this
          have or := or_shift (b := (l[k - 1 - j]?.getD 0).toNat) hlt8
          rw [← st.out] at or
          have orv := or_val (b := (l[k - 1 - j]?.getD 0)) hlt8 (by omega)
          rw [or] at orv
          clear or
          generalize ofBe ((l.take k).drop (k - j)) = t at *
          generalize (l[k - 1 - j]?.getD 0) = bb at *
          have hbb := bb.toNat_lt
          have Hor := Lib.hid orv
          clear orv
          go_wp2
          go_round
          case rel => exact ⟨j + 1, by omega, by go_num, by rw [Hor.out]⟩
          case measure => simp [intOf]; omega
        · obtain rfl : j = k := by omega
          go_wp2
          go_ret2
          exact ⟨by simp, rfl⟩
end Go.Proofs.YtdnioigcgggdbaaGreatDoor
