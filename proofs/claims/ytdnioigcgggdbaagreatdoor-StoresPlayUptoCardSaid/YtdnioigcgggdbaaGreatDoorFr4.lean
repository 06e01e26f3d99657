/-
  sums: pieces, On, Of.
-/
import Derived.Test.YtdnioigcgggdbaaGreatDoorMag
import Derived.Test.YtdnioigcgggdbaaGreatDoorNumM
set_option linter.unusedVariables false
set_option linter.unusedSimpArgs false
namespace Go.Proofs.YtdnioigcgggdbaaGreatDoor
open Go.RowKit Go.Shelf
attribute [local go_sem] Oper.semAt_some

theorem low16 (s : Nat) (hs : s < 4294967296) : IntKind.u64.wrap (bits .and .u32 (s : Int) 65535) = ((s % 65536 : Nat) : Int) := by
  have := u32_and_nat s 65535 hs (by decide)
  rw [show ((65535 : Nat) : Int) = 65535 from rfl] at this
  rw [this, show s &&& 65535 = s % 65536 from Nat.and_two_pow_sub_one_eq_mod s 16]
  exact wrap_u64_small (by omega) (by omega)
theorem high16 (s : Nat) : (s : Int) / 65536 = ((s / 65536 : Nat) : Int) := by omega
theorem both_or (X Y : Nat) (hX : X < 65536) (hY : Y < 65536) : bits .or .u64 (IntKind.u64.wrap ((Y : Int) * 65536)) (X : Int) = ((Y * 65536 + X : Nat) : Int) := by
  rw [wrap_u64_small (by omega) (by omega), show (Y : Int) * 65536 = ((Y * 65536 : Nat) : Int) by omega, u64_or_nat _ _ (by omega) (by omega)]
  have := Nat.shiftLeft_add_eq_or_of_lt (i := 16) (b := X) hX Y
  rw [Nat.shiftLeft_eq] at this
  rw [← this]
/-- a piece of a slice. -/
def pieceV (b o n c j : Nat) : Value := .slice (some ⟨b, o + 1024 * j, none⟩) (min 1024 (n - 1024 * j)) (c - 1024 * j)
/-- a box holds what is left of a slice behind j pieces. -/
def Rest (W : World) (B b o n c j : Nat) : Prop := ∃ A c', Boxed W B 50 (.slice A (n - 1024 * j) c') ∧ (1024 * j < n → A = some ⟨b, o + 1024 * j, none⟩ ∧ c' = c - 1024 * j)

set_option maxRecDepth 100000 in
set_option maxHeartbeats 1000000 in
theorem pieces1_in (F : Fence) (m : Nat) (h6 : F.fn 140) (hro : F.round = none) (hm : 1 ≤ m) (l B b o n c : Nat) (hn : n ≤ c) (J : Nat → World → Prop)
    (hJ : ∀ j W W', J j W → W.grownBy W' (some B) → J j W')
    (hY : ∀ j W, J j W → 1024 * j < n → YieldAt F (m - 1) Tryz.prog l #[pieceV b o n c j] W fun e W' => e = .returned (.bool true) ∧ J (j + 1) W' ∧ W'.heap[B]? = W.heap[B]?)
    (W : World) (hB : Rest W B b o n c 0) (h0 : J 0 W) :
    CallsIn F m Tryz.prog 140 #[.func (.yield l) #[] #[], .pointer (some ⟨B, 0, none⟩)] W fun e W' => (∃ v, e = .returned v) ∧ ∃ j, n ≤ 1024 * j ∧ J j W' := by
  refine callsIn_of_wp Tryz.func140 rfl h6 ?_ hro
  simp only [Tryz.ntmps140, List.size_toArray, List.length_cons, List.length_nil, Nat.reduceAdd, Nat.reduceSub, Array.replicate_succ, Array.replicate_zero, List.push_toArray, List.append_toArray, List.nil_append, List.cons_append]
  gi_wp2
  gi_loopw [3] (fun p wr => ∃ j : Nat, Rest wr B b o n c j ∧ J j wr ∧ 1024 * j < n + 1024)
    (fun p wr => match wr.cell? ⟨B, 0, none⟩ with | some (.slice _ n _) => n | _ => 0)
  case atStart =>
    exact ⟨0, hB, h0, by omega⟩
  case round =>
    obtain ⟨j, hR0, hJ0, hj⟩ := hrel
    obtain ⟨A, c1, hx, hA⟩ := hR0
    have hc := hx.cell
    by_cases hlt : 1024 * j < n
    · obtain ⟨rfl, rfl⟩ := hA hlt
      obtain ⟨fn, tmps, assign, body, hy, hR⟩ := hY j wr hJ0 hlt
      unfold pieceV at hy
      rw [show min 1024 (n - 1024 * j) = (min (1024 : Int) ((n - 1024 * j : Nat) : Int)).toNat by omega] at hy
      gi_wp2
      refine hR.mono ?_
      rintro e W3 ⟨rfl, hJ3, hk3⟩
      have hx3 : Boxed W3 B 50 _ := hk3.trans hx
      have hc3 := hx3.cell
      have hf3 := hx3.frozen
      gi_wp2
      have e1 : n - 1024 * j - (min (1024 : Int) ((n - 1024 * j : Nat) : Int)).toNat = n - 1024 * (j + 1) := by omega
      refine ⟨⟨j + 1, ⟨_, _, by rw [← e1]; exact hx3.set _, fun h => ?_⟩, hJ _ _ _ hJ3 (grownBy_setCell' _ _ _), by omega⟩, ?_⟩
      · rw [show (min (1024 : Int) ((n - 1024 * j : Nat) : Int)).toNat = 1024 by omega]
        rw [if_neg (by omega)]
        exact ⟨by congr 2, by omega⟩
      · rw [hc, (hx3.set _).cell]
        simp only
        omega
    · gi_wp2
      go_end0
      exact ⟨⟨_, rfl⟩, j, by omega, hJ0⟩

set_option maxHeartbeats 1000000 in
theorem pieces_in (F : Fence) (n : Nat) (h5 : F.fn 132) (hro : F.round = none) (A : Option Addr) (m c : Nat) (w : World) :
    CallsIn F n Tryz.prog 132 #[.slice A m c] w fun e w' => e = .returned (.func (.func 140) #[] #[.pointer (some ⟨w.heap.size, 0, none⟩)]) ∧
      w' = w.alloc (.cells #[.slice A m c] 50) := by
  refine callsIn_of_wp Tryz.func132 rfl h5 ?_ hro
  simp only [Tryz.ntmps132, List.size_toArray, List.length_cons, List.length_nil, Nat.reduceAdd, Nat.reduceSub, Array.replicate_succ, Array.replicate_zero, List.push_toArray, List.append_toArray, List.nil_append, List.cons_append]
  gi_wp2
  go_ret
  exact ⟨rfl, rfl⟩
end Go.Proofs.YtdnioigcgggdbaaGreatDoor
