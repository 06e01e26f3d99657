/-
  events: bytes and what they say, both ways. Plain Lean.
-/
import Derived.Test.YtnpcpmiomimphaaDoorEv9
set_option linter.unusedVariables false
namespace Go.Proofs.YtnpcpmiomimphaaDoor
open Go.RowKit

theorem numAt_mid (P S : List UInt8) (k n a : Nat) (ha : P.length = a) (hn : n < 256 ^ k) : numAt (P ++ be k n ++ S) a k = n := by
  subst ha
  unfold numAt
  rw [List.append_assoc, List.drop_left', List.take_left' (be_length k n), ofBe_be, Nat.mod_eq_of_lt hn]
  rfl
theorem evB_length (x : Ask) (e : Int) : (evB x e).length = 66 := by simp [evB, be_length]
theorem u8_of (k : Nat) (h : k ≤ 255) : (UInt8.ofNat k).toNat = k := by rw [UInt8.toNat_ofNat']; omega
theorem may_m {x : Ask} {e : Int} (hx : x.Wf) (h : x.may e = true) : x.m = 0 := by
  simp only [Ask.may, Bool.and_eq_true, decide_eq_true_eq] at h
  obtain ⟨h1, h2, h3, h4⟩ := h
  obtain ⟨hk, hs, hok⟩ := fits_parts hx h1
  have hb := hx.m
  have hm2 := min2 x.m
  rcases (show (min x.m 1).toNat = 0 ∨ (min x.m 1).toNat = 1 by omega) with h0 | h0
  · omega
  · rw [h0] at hok
    have := (less hk.2 (min2 _) (min2 _) (min2 _) (by omega) hok).2.2.2.2
    rw [hok] at this
    have h5 : x.k = 12 ∨ x.k = 13 := by simpa [Bool.or_eq_true] using this.symm
    omega
theorem evB_back {x : Ask} {e : Int} (hx : x.Wf) (h : x.may e = true) : evOf (evB x e) = x ∧ (evE (evB x e) : Int) = e := by
  have hm := may_m hx h
  have he := may_err h
  obtain ⟨k, i, p, a0, a1, a2, b0, b1, b2, n, m⟩ := x
  simp only at hm
  subst hm
  have hk := hx.k; have hi := hx.i; have hp := hx.p; have ha0 := hx.a0; have ha1 := hx.a1; have ha2 := hx.a2; have hb0 := hx.b0; have hb1 := hx.b1; have hb2 := hx.b2; have hn := hx.n
  simp only at hk hi hp ha0 ha1 ha2 hb0 hb1 hb2 hn
  have e1 : ∀ (z : Int) (a q : Nat) (P S : List UInt8), evB ⟨k, i, p, a0, a1, a2, b0, b1, b2, n, 0⟩ e = P ++ be q z.toNat ++ S → P.length = a → 0 ≤ z → z.toNat < 256 ^ q → (numAt (evB ⟨k, i, p, a0, a1, a2, b0, b1, b2, n, 0⟩ e) a q : Int) = z := by
    intro z a q P S h1 h2 h3 h4
    rw [h1, numAt_mid P S q _ a h2 h4]; omega
  have c2 := e1 i 2 4 [UInt8.ofNat k, UInt8.ofNat e.toNat] _ (by simp only [evB, List.append_assoc]; rfl) rfl hi.1 (by omega)
  have c6 := e1 p 6 4 ([UInt8.ofNat k, UInt8.ofNat e.toNat] ++ be 4 i.toNat) _ (by simp only [evB, List.append_assoc]; rfl) (by simp [be_length]) hp.1 (by omega)
  have c10 := e1 a0 10 8 ([UInt8.ofNat k, UInt8.ofNat e.toNat] ++ be 4 i.toNat ++ be 4 p.toNat) _ (by simp only [evB, List.append_assoc]; rfl) (by simp [be_length]) ha0.1 (by omega)
  have c18 := e1 a1 18 8 ([UInt8.ofNat k, UInt8.ofNat e.toNat] ++ be 4 i.toNat ++ be 4 p.toNat ++ be 8 a0.toNat) _ (by simp only [evB, List.append_assoc]; rfl) (by simp [be_length]) ha1.1 (by omega)
  have c26 := e1 a2 26 8 ([UInt8.ofNat k, UInt8.ofNat e.toNat] ++ be 4 i.toNat ++ be 4 p.toNat ++ be 8 a0.toNat ++ be 8 a1.toNat) _ (by simp only [evB, List.append_assoc]; rfl) (by simp [be_length]) ha2.1 (by omega)
  have c34 := e1 b0 34 8 ([UInt8.ofNat k, UInt8.ofNat e.toNat] ++ be 4 i.toNat ++ be 4 p.toNat ++ be 8 a0.toNat ++ be 8 a1.toNat ++ be 8 a2.toNat) _ (by simp only [evB, List.append_assoc]; rfl) (by simp [be_length]) hb0.1 (by omega)
  have c42 := e1 b1 42 8 ([UInt8.ofNat k, UInt8.ofNat e.toNat] ++ be 4 i.toNat ++ be 4 p.toNat ++ be 8 a0.toNat ++ be 8 a1.toNat ++ be 8 a2.toNat ++ be 8 b0.toNat) _ (by simp only [evB, List.append_assoc]; rfl) (by simp [be_length]) hb1.1 (by omega)
  have c50 := e1 b2 50 8 ([UInt8.ofNat k, UInt8.ofNat e.toNat] ++ be 4 i.toNat ++ be 4 p.toNat ++ be 8 a0.toNat ++ be 8 a1.toNat ++ be 8 a2.toNat ++ be 8 b0.toNat ++ be 8 b1.toNat) _ (by simp only [evB, List.append_assoc]; rfl) (by simp [be_length]) hb2.1 (by omega)
  have c58 := e1 n 58 8 ([UInt8.ofNat k, UInt8.ofNat e.toNat] ++ be 4 i.toNat ++ be 4 p.toNat ++ be 8 a0.toNat ++ be 8 a1.toNat ++ be 8 a2.toNat ++ be 8 b0.toNat ++ be 8 b1.toNat ++ be 8 b2.toNat) [] (by simp only [evB, List.append_assoc, List.append_nil]) (by simp [be_length]) hn.1 (by omega)
  refine ⟨?_, ?_⟩
  · unfold evOf
    rw [c2, c6, c10, c18, c26, c34, c42, c50, c58]
    congr 1
    exact u8_of k hk
  · unfold evE
    show ((UInt8.ofNat e.toNat).toNat : Int) = e
    rw [u8_of _ (by omega)]; omega
/-- Get of what Put made. -/
theorem getEv_put {x : Ask} {e : Int} (hx : x.Wf) (h : x.may e = true) : getEv (evB x e) = (x.cells ++ [Value.int .i64 e], 0) := by
  obtain ⟨h1, h2⟩ := evB_back hx h
  unfold getEv
  rw [evB_length, if_neg (by omega), if_neg (by omega), h1, h2, if_pos h]
theorem evB_inj {x y : Ask} {e f : Int} (hx : x.Wf) (h : x.may e = true) (hy : y.Wf) (g : y.may f = true) (hb : evB x e = evB y f) : x = y ∧ e = f := by
  obtain ⟨h1, h2⟩ := evB_back hx h
  obtain ⟨g1, g2⟩ := evB_back hy g
  exact ⟨by rw [← h1, hb, g1], by rw [← h2, hb, g2]⟩
theorem cut_be (l : List UInt8) (a k : Nat) (h : a + k ≤ l.length) : be k (numAt l a k) = (l.drop a).take k := by
  unfold numAt
  have := be_ofBe ((l.drop a).take k)
  rwa [List.length_take, List.length_drop, Nat.min_eq_left (by omega)] at this
theorem take_cut (l : List UInt8) (a k : Nat) : l.take a ++ (l.drop a).take k = l.take (a + k) := (List.take_add).symm
/-- what 66 bytes say is put as those. -/
theorem evB_evOf {l : List UInt8} (h : l.length = 66) : evB (evOf l) (evE l) = l := by
  have e2 : [UInt8.ofNat (evOf l).k, UInt8.ofNat ((evE l : Int)).toNat] = l.take 2 := by
    match l, h with
    | x :: y :: r, _ => simp [evOf, evE]
  unfold evB
  rw [e2]
  have n1 : ∀ n : Nat, ((n : Nat) : Int).toNat = n := fun n => by omega
  simp only [evOf, n1]
  rw [cut_be l 2 4 (by omega), cut_be l 6 4 (by omega), cut_be l 10 8 (by omega), cut_be l 18 8 (by omega), cut_be l 26 8 (by omega), cut_be l 34 8 (by omega), cut_be l 42 8 (by omega), cut_be l 50 8 (by omega), cut_be l 58 8 (by omega)]
  rw [take_cut, take_cut, take_cut, take_cut, take_cut, take_cut, take_cut, take_cut, take_cut]
  exact List.take_of_length_le (by omega)
/-- what Get gives may be decided. -/
theorem getEv_may {l : List UInt8} (h : (getEv l).2 = 0) : l.length = 66 ∧ (evOf l).may (evE l) = true ∧ getEv l = ((evOf l).cells ++ [Value.int .i64 (evE l)], 0) := by
  unfold getEv at h ⊢
  by_cases h1 : l.length < 66
  · rw [if_pos h1] at h; simp at h
  · rw [if_neg h1] at h
    by_cases h2 : 66 < l.length
    · rw [if_pos h2] at h; simp at h
    · rw [if_neg h2] at h
      by_cases h3 : (evOf l).may (evE l) = true
      · rw [if_neg h1, if_neg h2, if_pos h3]; exact ⟨by omega, h3, rfl⟩
      · rw [if_neg h3] at h; simp at h
theorem getEv_no {l : List UInt8} (h : (getEv l).2 ≠ 0) : (getEv l).1 = ev0.toList ∧ ((getEv l).2 = if l.length < 66 then 5 else 4) := by
  unfold getEv at h ⊢
  by_cases h1 : l.length < 66
  · rw [if_pos h1]; simp [h1]
  · rw [if_neg h1] at h ⊢
    by_cases h2 : 66 < l.length
    · rw [if_pos h2]; simp [h1]
    · rw [if_neg h2] at h ⊢
      by_cases h3 : (evOf l).may (evE l) = true
      · rw [if_pos h3] at h; simp at h
      · rw [if_neg h3]; simp [h1]
end Go.Proofs.YtnpcpmiomimphaaDoor
