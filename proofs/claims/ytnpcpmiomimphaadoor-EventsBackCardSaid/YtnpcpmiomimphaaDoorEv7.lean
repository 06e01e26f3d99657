/-
  events: what may be asked may be asked with less. Plain Lean.
-/
import Derived.Test.YtnpcpmiomimphaaDoorEv6
set_option linter.unusedVariables false
namespace Go.Proofs.YtnpcpmiomimphaaDoor
open Go.RowKit

def okB (k v0 v1 v2 v3 : Nat) (fa fb : Bool) : Bool := bits .andNot .i64 (hasV ((v0 : Int) + 2 * v1 + 16 * v2 + 32 * v3) fa fb) (need k) == 0
theorem less_all : ((List.range 16).all fun k => (List.range 2).all fun v0 => (List.range 2).all fun v1 => (List.range 2).all fun v2 => (List.range 2).all fun v3 => [true, false].all fun fa => [true, false].all fun fb =>
    !okB k v0 v1 v2 v3 fa fb || (okB k 0 v1 v2 v3 fa fb && okB k v0 0 v2 v3 fa fb && okB k v0 v1 0 v3 fa fb && okB k v0 v1 v2 v3 false fb && (okB k v0 v1 v2 1 fa fb == (k == 12 || k == 13)))) = true := by decide +kernel
theorem less {k v0 v1 v2 v3 : Nat} {fa fb : Bool} (hk : k < 16) (h0 : v0 < 2) (h1 : v1 < 2) (h2 : v2 < 2) (h3 : v3 < 2) (h : okB k v0 v1 v2 v3 fa fb = true) :
    okB k 0 v1 v2 v3 fa fb = true ∧ okB k v0 0 v2 v3 fa fb = true ∧ okB k v0 v1 0 v3 fa fb = true ∧ okB k v0 v1 v2 v3 false fb = true ∧ okB k v0 v1 v2 1 fa fb = (k == 12 || k == 13) := by
  have a := less_all
  simp only [List.all_eq_true, List.mem_range] at a
  have b := a k hk v0 h0 v1 h1 v2 h2 v3 h3 fa (by cases fa <;> simp) fb (by cases fb <;> simp)
  rw [h] at b
  simp only [Bool.not_true, Bool.false_or, Bool.and_eq_true, beq_iff_eq] at b
  exact ⟨b.1.1.1.1, b.1.1.1.2, b.1.1.2, b.1.2, b.2⟩
theorem fits_okB (x : Ask) (hx : x.Wf) : x.fits = (decide (0 < x.k ∧ x.k < 16) && decide x.small && okB x.k (min x.i 1).toNat (min x.p 1).toNat (min x.n 1).toNat (min x.m 1).toNat (decide ([x.a0, x.a1, x.a2] ≠ [0, 0, 0])) (decide ([x.b0, x.b1, x.b2] ≠ [0, 0, 0]))) := by
  have e : ∀ z : Int, 0 ≤ z → (((min z 1).toNat : Nat) : Int) = min z 1 := fun z hz => by omega
  unfold Ask.fits Ask.has okB
  rw [e _ hx.i.1, e _ hx.p.1, e _ hx.n.1, e _ hx.m.1]
theorem all3 {p q : Prop} [Decidable p] [Decidable q] {r b : Bool} (hp : p) (hq : q) (h : r = b) : (decide p && decide q && r) = b := by
  rw [decide_eq_true hp, decide_eq_true hq, Bool.true_and, Bool.true_and, h]
theorem min2 (z : Int) : (min z 1).toNat < 2 := by omega
theorem fits_parts {x : Ask} (hx : x.Wf) (h : x.fits = true) : (0 < x.k ∧ x.k < 16) ∧ x.small ∧ okB x.k (min x.i 1).toNat (min x.p 1).toNat (min x.n 1).toNat (min x.m 1).toNat (decide ([x.a0, x.a1, x.a2] ≠ [0, 0, 0])) (decide ([x.b0, x.b1, x.b2] ≠ [0, 0, 0])) = true := by
  rw [fits_okB x hx] at h
  simpa [Bool.and_eq_true, and_assoc] using h
theorem fits_i (x : Ask) (hx : x.Wf) (h : x.fits = true) : (Ask.mk x.k 0 x.p x.a0 x.a1 x.a2 x.b0 x.b1 x.b2 x.n x.m).fits = true := by
  obtain ⟨h1, h2, h3⟩ := fits_parts hx h
  refine (fits_okB _ ?_).trans ?_
  · exact ⟨hx.k, by simp, hx.p, hx.a0, hx.a1, hx.a2, hx.b0, hx.b1, hx.b2, hx.n, hx.m⟩
  have := (less h1.2 (min2 _) (min2 _) (min2 _) (min2 _) h3).1
  exact all3 h1 h2 this
theorem fits_p (x : Ask) (hx : x.Wf) (h : x.fits = true) : (Ask.mk x.k x.i 0 x.a0 x.a1 x.a2 x.b0 x.b1 x.b2 x.n x.m).fits = true := by
  obtain ⟨h1, h2, h3⟩ := fits_parts hx h
  refine (fits_okB _ ?_).trans ?_
  · exact ⟨hx.k, hx.i, by simp, hx.a0, hx.a1, hx.a2, hx.b0, hx.b1, hx.b2, hx.n, hx.m⟩
  have := (less h1.2 (min2 _) (min2 _) (min2 _) (min2 _) h3).2.1
  exact all3 h1 h2 this
theorem fits_n (x : Ask) (hx : x.Wf) (h : x.fits = true) : (Ask.mk x.k x.i x.p x.a0 x.a1 x.a2 x.b0 x.b1 x.b2 0 x.m).fits = true := by
  obtain ⟨h1, h2, h3⟩ := fits_parts hx h
  refine (fits_okB _ ?_).trans ?_
  · exact ⟨hx.k, hx.i, hx.p, hx.a0, hx.a1, hx.a2, hx.b0, hx.b1, hx.b2, by simp, hx.m⟩
  have := (less h1.2 (min2 _) (min2 _) (min2 _) (min2 _) h3).2.2.1
  exact all3 h1 h2 this
theorem fits_a (x : Ask) (hx : x.Wf) (h : x.fits = true) : (Ask.mk x.k x.i x.p 0 0 0 x.b0 x.b1 x.b2 x.n x.m).fits = true := by
  obtain ⟨h1, h2, h3⟩ := fits_parts hx h
  refine (fits_okB _ ?_).trans ?_
  · exact ⟨hx.k, hx.i, hx.p, by simp, by simp, by simp, hx.b0, hx.b1, hx.b2, hx.n, hx.m⟩
  have := (less h1.2 (min2 _) (min2 _) (min2 _) (min2 _) h3).2.2.2.1
  exact all3 h1 ⟨by simp, by simp, by simp, h2.2.2.2⟩ this
theorem fits_m1 (x : Ask) (hx : x.Wf) (h : x.fits = true) : (Ask.mk x.k x.i x.p x.a0 x.a1 x.a2 x.b0 x.b1 x.b2 x.n 1).fits = (x.k == 12 || x.k == 13) := by
  obtain ⟨h1, h2, h3⟩ := fits_parts hx h
  refine (fits_okB _ ?_).trans ?_
  · exact ⟨hx.k, hx.i, hx.p, hx.a0, hx.a1, hx.a2, hx.b0, hx.b1, hx.b2, hx.n, by simp⟩
  have := (less h1.2 (min2 _) (min2 _) (min2 _) (min2 _) h3).2.2.2.2
  exact all3 h1 h2 this
theorem fits_a1 (x : Ask) : (Ask.mk x.k x.i x.p x.a0 1099511627777 x.a2 x.b0 x.b1 x.b2 x.n x.m).fits = false := by
  unfold Ask.fits
  rw [decide_eq_false (p := Ask.small _) (fun h => by have := h.2.1; simp at this)]
  simp
end Go.Proofs.YtnpcpmiomimphaaDoor
