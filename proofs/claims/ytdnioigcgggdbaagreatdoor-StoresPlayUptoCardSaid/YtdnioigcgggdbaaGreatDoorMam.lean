/-
  stores: plain laws: a region that is clean, or torn behind its end; what Open and Add come to there.
  stores: plain laws: a disk that keeps a store's records.
  The references' numbers: almonerref01.power.
-/
import Derived.Test.YtdnioigcgggdbaaGreatDoorMal
import Derived.Test.YtdnioigcgggdbaaGreatDoorMac
import Derived.Test.YtdnioigcgggdbaaGreatDoorNumM
import Derived.Test.YtdnioigcgggdbaaGreatDoorMab
set_option linter.unusedVariables false
set_option linter.unusedSimpArgs false
namespace Go.Proofs.YtdnioigcgggdbaaGreatDoor
open Go.RowKit

/-! ### frames as sectors -/
theorem chunk_len : ∀ (n : Nat) (x : List UInt8), (chunk n x).length = n
  | 0, _ => rfl
  | n + 1, x => by rw [chunk, List.length_cons, chunk_len n]
theorem chunk_64 : ∀ (n : Nat) (x : List UInt8), x.length = n * 64 → ∀ s ∈ chunk n x, s.length = 64
  | 0, x, _, s, h => by cases h
  | n + 1, x, hx, s, h => by
    rw [chunk] at h
    rcases List.mem_cons.1 h with rfl | h
    · rw [List.length_take]; omega
    · exact chunk_64 n (x.drop 64) (by rw [List.length_drop]; omega) s h
theorem chunk_at : ∀ (n : Nat) (x : List UInt8) (i : Nat), i < n → (chunk n x)[i]? = some ((x.drop (i * 64)).take 64)
  | n + 1, x, 0, _ => by simp [chunk]
  | n + 1, x, i + 1, h => by
    rw [chunk, List.getElem?_cons_succ, chunk_at n _ i (by omega), List.drop_drop, show 64 + i * 64 = (i + 1) * 64 from by omega]
theorem secs_1 (n : Nat) : 1 ≤ secs n := by unfold secs; omega
theorem secs_5 {n : Nat} (h : n ≤ 256) : secs n ≤ 5 := by unfold secs; omega
theorem frS_len (k : Nat) (b : List UInt8) : (frS k b).length = secs b.length := chunk_len _ _
theorem frS_64 (k : Nat) (b : List UInt8) : ∀ s ∈ frS k b, s.length = 64 := chunk_64 _ _ (putF_len k b)
/-- the sectors of records, behind k of them. -/
def sects : Nat → List (List UInt8) → List (List UInt8)
  | _, [] => []
  | k, b :: l => frS (k + 1) b ++ sects (k + 1) l
theorem sects_snoc : ∀ (l : List (List UInt8)) (k : Nat) (b : List UInt8), sects k (l ++ [b]) = sects k l ++ frS (k + l.length + 1) b
  | [], k, b => by simp [sects]
  | a :: l, k, b => by
    rw [List.cons_append, sects, sects_snoc l (k + 1) b, sects, List.append_assoc, List.length_cons, show k + 1 + l.length = k + (l.length + 1) from by omega]
/-! ### a region -/
/-- the first sectors of a region are these; the next one is noughts, and so are those from the fifth one on. -/
structure Torn (l : List (List UInt8)) (fr mn : Nat) (S : List (List UInt8)) : Prop where
  le : fr + mn ≤ l.length
  sl : S.length ≤ mn
  at_ : ∀ i, i < S.length → l[fr + i]? = S[i]?
  z0 : S.length < mn → l[fr + S.length]? = some zsec
  z5 : ∀ i, S.length + 5 ≤ i → i < mn → l[fr + i]? = some zsec
/-- the first sectors of a region are these, the others noughts. -/
structure Clean (l : List (List UInt8)) (fr mn : Nat) (S : List (List UInt8)) : Prop where
  le : fr + mn ≤ l.length
  sl : S.length ≤ mn
  at_ : ∀ i, i < S.length → l[fr + i]? = S[i]?
  z : ∀ i, S.length ≤ i → i < mn → l[fr + i]? = some zsec
/-- nothing else than the region is another one. -/
def Outside (fr mn : Nat) (l l' : List (List UInt8)) : Prop := l'.length = l.length ∧ ∀ j, j < fr ∨ fr + mn ≤ j → l'[j]? = l[j]?
theorem Outside.refl (fr mn : Nat) (l : List (List UInt8)) : Outside fr mn l l := ⟨rfl, fun _ _ => rfl⟩
theorem Outside.trans {fr mn : Nat} {l l' l'' : List (List UInt8)} (h : Outside fr mn l l') (h' : Outside fr mn l' l'') : Outside fr mn l l'' := ⟨h'.1.trans h.1, fun j hj => (h'.2 j hj).trans (h.2 j hj)⟩
theorem Clean.torn {l : List (List UInt8)} {fr mn : Nat} {S : List (List UInt8)} (h : Clean l fr mn S) : Torn l fr mn S :=
  ⟨h.le, h.sl, h.at_, fun hlt => h.z _ (Nat.le_refl _) hlt, fun i h1 h2 => h.z i (by omega) h2⟩
/-- another region's writes do not disturb. -/
theorem Clean.other {l l' : List (List UInt8)} {fr mn fr2 mn2 : Nat} {S : List (List UInt8)} (h : Clean l fr mn S) (ho : Outside fr2 mn2 l l') (hd : fr + mn ≤ fr2 ∨ fr2 + mn2 ≤ fr) : Clean l' fr mn S := by
  have hsl := h.sl
  refine ⟨by rw [ho.1]; exact h.le, hsl, fun i hi => ?_, fun i h1 h2 => ?_⟩
  · rw [ho.2 _ (by omega)]; exact h.at_ i hi
  · rw [ho.2 _ (by omega)]; exact h.z i h1 h2
theorem Clean.same {l l' : List (List UInt8)} {fr mn : Nat} {S : List (List UInt8)} (h : Clean l fr mn S) (h' : Clean l' fr mn S) (ho : Outside fr mn l l') : l' = l := by
  apply List.ext_getElem?
  intro j
  by_cases hj : j < fr ∨ fr + mn ≤ j
  · exact ho.2 j hj
  · obtain ⟨i, rfl⟩ : ∃ i, j = fr + i := ⟨j - fr, by omega⟩
    by_cases hi : i < S.length
    · rw [h.at_ i hi, h'.at_ i hi]
    · rw [h.z i (by omega) (by omega), h'.z i (by omega) (by omega)]
theorem Torn.set {l : List (List UInt8)} {fr mn : Nat} {S : List (List UInt8)} (h : Torn l fr mn S) {n : Nat} (y : List UInt8) (h1 : fr + S.length < n) (h2 : n < fr + S.length + 5) : Torn (l.set n y) fr mn S := by
  refine ⟨by rw [List.length_set]; exact h.le, h.sl, fun i hi => ?_, fun hlt => ?_, fun i h3 h4 => ?_⟩
  · rw [List.getElem?_set_ne (by omega)]; exact h.at_ i hi
  · rw [List.getElem?_set_ne (by omega)]; exact h.z0 hlt
  · rw [List.getElem?_set_ne (by omega)]; exact h.z5 i h3 h4
theorem failK_one (su : List (List UInt8)) (p : Nat) (x : List UInt8) (kept : List Bool) : failK su [(p, x)] kept (min 1 kept.length) = su ∨ failK su [(p, x)] kept (min 1 kept.length) = su.set p x := by
  rcases kept with _ | ⟨b, kept⟩
  · exact .inl rfl
  · rw [List.length_cons, show min 1 (kept.length + 1) = 0 + 1 from by omega, failK]
    cases b with
    | true => exact .inr rfl
    | false => exact .inl rfl
theorem failK_nil (su : List (List UInt8)) (kept : List Bool) : failK su [] kept (min 0 kept.length) = su := by
  rw [Nat.zero_min]; rfl
/-! ### the disk -/
/-- no fuse. -/
def Dd.free (d : Dd) : Prop := d.lf = -1 ∧ d.bl = false
theorem Dd.free.sp {d : Dd} (h : d.free) : spentB d.lf d.bl = false ∧ spentL d.lf d.bl = -1 := by
  rw [h.1, h.2]; exact ⟨rfl, rfl⟩
theorem write_at (d : Dd) {n : Nat} {b : List UInt8} (hn : n < d.su.length) (hb : b.length ≤ 64) : d.write (n : Int) b = if spentB d.lf d.bl then (d.spend, 9) else (⟨d.su, d.no.set n (padS b), d.wa ++ [(n, padS b)], spentL d.lf d.bl, false⟩, 0) := by
  unfold Dd.write
  rw [if_neg (by omega), Int.toNat_natCast]
theorem sync_free {d : Dd} (h : d.free) : d.sync = (dnew d.no, 0) := by
  obtain ⟨su, no, wa, lf, bl⟩ := d
  obtain ⟨rfl, rfl⟩ : lf = -1 ∧ bl = false := h
  rfl
theorem free_new (l : List (List UInt8)) : (dnew l).free := ⟨rfl, rfl⟩
theorem padS_64 {s : List UInt8} (h : s.length = 64) : padS s = s := by
  unfold padS
  rw [h]; simp
/-! ### steps -/
theorem runS_append : ∀ (a b : List (Option (Nat × List UInt8))) (d : Dd), runS (a ++ b) d = if (runS a d).2 = 0 then runS b (runS a d).1 else runS a d
  | [], b, d => by simp [runS]
  | none :: a, b, d => by
    rw [List.cons_append, runS, runS]
    split
    · exact runS_append a b _
    · rfl
  | some x :: a, b, d => by
    rw [List.cons_append, runS, runS]
    split
    · exact runS_append a b _
    · rfl
theorem runS_wrs : ∀ (X : List (List UInt8)) (n : Nat) (d : Dd), (∀ s ∈ X, s.length = 64) → n + X.length ≤ d.su.length → d.su.length = d.no.length →
    ∃ d' e, runS (wrs n X) d = (d', e) ∧ d'.su = d.su ∧ d'.no.length = d.no.length ∧ (∀ j, j < n ∨ n + X.length ≤ j → d'.no[j]? = d.no[j]?) ∧ (∀ y ∈ d'.wa, y ∈ d.wa ∨ (n ≤ y.1 ∧ y.1 < n + X.length)) ∧ (e = 0 ∨ e = 9) ∧
      (e = 0 → ∀ i, i < X.length → d'.no[n + i]? = X[i]?) ∧ (d.free → e = 0 ∧ d'.free)
  | [], n, d, _, _, _ => ⟨d, 0, rfl, rfl, rfl, fun _ _ => rfl, fun y h => .inl h, .inl rfl, fun _ i hi => absurd hi (by simp), fun h => ⟨rfl, h⟩⟩
  | x :: X, n, d, hX, hn, hs => by
    rw [List.length_cons] at hn
    have hx := hX x (.head _)
    have hw := write_at d (n := n) (b := x) (by omega) (by omega)
    rw [padS_64 hx] at hw
    rw [wrs, runS]
    cases hsp : spentB d.lf d.bl with
    | true =>
      rw [hsp, if_pos rfl] at hw
      simp only [hw]
      rw [if_neg (by decide)]
      refine ⟨_, _, rfl, rfl, rfl, fun _ _ => rfl, fun y h => .inl h, .inr rfl, fun h => absurd h (by decide), fun h => ?_⟩
      have := h.sp.1
      rw [hsp] at this
      cases this
    | false =>
      rw [hsp, if_neg (by decide)] at hw
      simp only [hw, if_true]
      obtain ⟨d', e, h1, h2, h3, h4, h5, h6, h7, h8⟩ := runS_wrs X (n + 1) ⟨d.su, d.no.set n x, d.wa ++ [(n, x)], spentL d.lf d.bl, false⟩ (fun s hs => hX s (.tail _ hs)) (by simp only; omega) (by simp only [List.length_set]; exact hs)
      simp only [List.length_set] at h2 h3 h4 h5
      refine ⟨d', e, h1, h2, h3, fun j hj => ?_, fun y hy => ?_, h6, fun he i hi => ?_, fun h => h8 ⟨h.sp.2, rfl⟩⟩
      · rw [List.length_cons] at hj
        rw [h4 j (by omega), List.getElem?_set_ne (by omega)]
      · rw [List.length_cons]
        rcases h5 y hy with h | h
        · rcases List.mem_append.1 h with h | h
          · exact .inl h
          · obtain rfl := List.mem_singleton.1 h
            exact .inr ⟨Nat.le_refl _, by simp only; omega⟩
        · exact .inr ⟨by omega, by omega⟩
      · cases i with
        | zero => rw [Nat.add_zero, h4 n (by omega), List.getElem?_set_self (by omega)]; rfl
        | succ i =>
          rw [List.length_cons] at hi
          have := h7 he i (by omega)
          rw [show n + 1 + i = n + (i + 1) from by omega] at this
          rw [this, List.getElem?_cons_succ]
/-- a disk of which, whatever of what waits is lost, is left what is torn behind these sectors. -/
def Half (d : Dd) (fr mn : Nat) (S : List (List UInt8)) : Prop := Torn d.su fr mn S ∧ ∀ y ∈ d.wa, fr + S.length < y.1 ∧ y.1 < fr + S.length + 5
theorem sync_cases (d : Dd) : (d.sync = (d.spend, 9) ∧ ¬ d.free) ∨ (d.sync = (⟨d.no, d.no, [], spentL d.lf d.bl, false⟩, 0)) := by
  unfold Dd.sync
  cases h : spentB d.lf d.bl with
  | true =>
    refine .inl ⟨by rw [if_pos rfl], fun hf => ?_⟩
    have := hf.sp.1
    rw [h] at this
    cases this
  | false =>
    refine .inr ?_
    rw [if_neg (by decide)]
    unfold Dd.spend Dd.settle
    rw [h]
/-- what Add's steps come to. -/
theorem steps_out {d : Dd} {fr mn : Nat} {S F : List (List UInt8)} (hsu : d.su.length = d.no.length) (hC : Clean d.no fr mn S) (hF : ∀ s ∈ F, s.length = 64) (h1 : 1 ≤ F.length) (h5 : F.length ≤ 5) (hm : S.length + F.length ≤ mn) :
    ∃ d' e, runS (stepsF (fr + S.length) F) d = (d', e) ∧ (e = 0 ∨ e = 9) ∧ (d.free → e = 0 ∧ d'.free) ∧ d'.su.length = d'.no.length ∧ Outside fr mn d.no d'.no ∧
      (e = 0 → Clean d'.no fr mn (S ++ F) ∧ Torn d'.su fr mn S ∧ ∃ x, d'.wa = [(fr + S.length, x)] ∧ d'.no = d'.su.set (fr + S.length) x) ∧
      (e = 9 → Half d fr mn S → Half d' fr mn S) := by
  have hle := hC.le
  obtain ⟨x0, X, rfl⟩ : ∃ x X, F = x :: X := by
    cases F with
    | nil => simp at h1
    | cons x X => exact ⟨x, X, rfl⟩
  have hx0 := hF x0 (.head _)
  have hX : ∀ s ∈ X, s.length = 64 := fun s hs => hF s (.tail _ hs)
  rw [List.length_cons] at h1 h5 hm
  unfold stepsF
  rw [List.drop_succ_cons, List.drop_zero, List.getElem?_cons_zero, Option.getD_some, runS]
  rcases sync_cases d with ⟨hs, hnf⟩ | hs
  · -- the first Sync is not let be
    rw [hs, if_neg (show ¬ ((9 : Int) = 0) by decide)]
    exact ⟨_, _, rfl, .inr rfl, fun h => absurd h hnf, hsu, Outside.refl _ _ _, fun h => absurd h (by decide), fun _ h => h⟩
  rw [hs, if_pos rfl]
  simp only
  generalize hd1 : (⟨d.no, d.no, [], spentL d.lf d.bl, false⟩ : Dd) = d1
  have e1 : d1.su = d.no ∧ d1.no = d.no ∧ d1.wa = [] := by subst hd1; exact ⟨rfl, rfl, rfl⟩
  have f1 : d.free → d1.free := fun h => by subst hd1; exact ⟨h.sp.2, rfl⟩
  clear hd1 hs
  rw [runS_append]
  obtain ⟨d2, e, g1, g2, g3, g4, g5, g6, g7, g8⟩ := runS_wrs X (fr + S.length + 1) d1 hX (by rw [e1.1]; omega) (by rw [e1.1, e1.2.1])
  rw [e1.1] at g2
  rw [e1.2.1] at g3 g4
  rw [e1.2.2] at g5
  have hO2 : Outside fr mn d.no d2.no := ⟨g3, fun j hj => g4 j (by omega)⟩
  have hH2 : Half d2 fr mn S := ⟨by rw [g2]; exact hC.torn, fun y hy => by
    rcases g5 y hy with h | h
    · cases h
    · omega⟩
  rw [g1]
  simp only
  rcases g6.symm with rfl | rfl
  · rw [if_neg (by decide)]
    exact ⟨_, _, rfl, .inr rfl, fun h => absurd (g8 (f1 h)).1 (by decide), by rw [g2, g3], hO2, fun h => absurd h (by decide), fun _ _ => hH2⟩
  rw [if_pos rfl]
  have f2 : d.free → d2.free := fun h => (g8 (f1 h)).2
  have g7 := g7 rfl
  -- what stands behind the frame's other sectors
  have hT2 : Torn d2.no fr mn S := ⟨by rw [g3]; exact hle, hC.sl, fun i hi => by rw [g4 _ (by omega)]; exact hC.at_ i hi, fun hlt => by rw [g4 _ (by omega)]; exact hC.z _ (Nat.le_refl _) hlt,
    fun i h3 h4 => by rw [g4 _ (by omega)]; exact hC.z i (by omega) h4⟩
  -- the second Sync
  have hsync : ∃ d3 e3, runS ((if (x0 :: X).length ≤ 1 then [] else [none]) ++ [some (fr + S.length, x0)]) d2 = (if e3 = 0 then runS [some (fr + S.length, x0)] d3 else (d3, e3)) ∧ (e3 = 0 ∨ e3 = 9) ∧ (d.free → e3 = 0 ∧ d3.free) ∧ (e3 = 0 → d3.su = d2.no ∧ d3.no = d2.no ∧ d3.wa = []) ∧ (e3 = 9 → Half d3 fr mn S ∧ d3.no = d2.no ∧ d3.su = d.no) := by
    by_cases hX1 : (x0 :: X).length ≤ 1
    · rw [if_pos hX1]
      have hX0 : X = [] := List.eq_nil_of_length_eq_zero (by rw [List.length_cons] at hX1; omega)
      subst hX0
      have g1' : (d1, (0 : Int)) = (d2, 0) := g1
      cases g1'
      exact ⟨d1, 0, by rw [if_pos rfl]; rfl, .inl rfl, fun h => ⟨rfl, f1 h⟩, fun _ => ⟨by rw [e1.1, e1.2.1], rfl, e1.2.2⟩, fun h => absurd h (by decide)⟩
    · rw [if_neg hX1]
      rcases sync_cases d2 with ⟨hs, hnf⟩ | hs
      · exact ⟨d2.spend, 9, by rw [List.singleton_append, runS, hs], .inr rfl, fun h => absurd (f2 h) hnf, fun h => absurd h (by decide), fun _ => ⟨hH2, rfl, g2⟩⟩
      · refine ⟨⟨d2.no, d2.no, [], spentL d2.lf d2.bl, false⟩, 0, ?_, .inl rfl, fun h => ⟨rfl, ?_⟩, fun _ => ⟨rfl, rfl, rfl⟩, fun h => absurd h (by decide)⟩
        · rw [List.singleton_append, runS, hs]
        · exact ⟨(f2 h).sp.2, rfl⟩
  obtain ⟨d3, e3, k1, k2, k3, k4, k5⟩ := hsync
  rw [k1]
  rcases k2.symm with rfl | rfl
  · rw [if_neg (by decide)]
    obtain ⟨k6, k7, k8⟩ := k5 rfl
    exact ⟨_, _, rfl, .inr rfl, fun h => absurd (k3 h).1 (by decide), by rw [k7, k8, g3], by rw [k7]; exact hO2, fun h => absurd h (by decide), fun _ _ => k6⟩
  rw [if_pos rfl]
  obtain ⟨k6, k7, k8⟩ := k4 rfl
  have hlen3 : d3.su.length = d.no.length := by rw [k6, g3]
  have hw := write_at d3 (n := fr + S.length) (b := x0) (by omega) (by omega)
  rw [padS_64 hx0] at hw
  rw [runS]
  cases hsp : spentB d3.lf d3.bl with
  | true =>
    rw [hsp, if_pos rfl] at hw
    simp only [hw]
    rw [if_neg (by decide)]
    refine ⟨_, _, rfl, .inr rfl, fun h => ?_, by simp only [Dd.spend]; rw [k6, k7], by simp only [Dd.spend]; rw [k7]; exact hO2, fun h => absurd h (by decide), fun _ _ => ⟨by simp only [Dd.spend]; rw [k6]; exact hT2, fun y hy => by simp only [Dd.spend] at hy; rw [k8] at hy; cases hy⟩⟩
    have := (k3 h).2.sp.1
    rw [hsp] at this
    cases this
  | false =>
    rw [hsp, if_neg (by decide)] at hw
    simp only [hw]
    refine ⟨_, _, rfl, .inl rfl, fun h => ⟨rfl, (k3 h).2.sp.2, rfl⟩, ?_, ⟨?_, fun j hj => ?_⟩, fun _ => ⟨⟨?_, ?_, fun i hi => ?_, fun i hi1 hi2 => ?_⟩, ?_, x0, ?_, ?_⟩, fun h => absurd h (by decide)⟩
    · simp only [List.length_set]; rw [k6, k7]
    · simp only [List.length_set]; rw [k7, g3]
    · simp only
      rw [List.getElem?_set_ne (by omega), k7]
      exact hO2.2 j hj
    · simp only [List.length_set]; rw [k7, g3]; exact hle
    · rw [List.length_append, List.length_cons]; omega
    · rw [List.length_append, List.length_cons] at hi
      simp only
      rw [k7]
      by_cases hiS : i < S.length
      · rw [List.getElem?_set_ne (by omega), List.getElem?_append_left hiS]
        exact hT2.at_ i hiS
      · obtain ⟨q, rfl⟩ : ∃ q, i = S.length + q := ⟨i - S.length, by omega⟩
        rw [List.getElem?_append_right (by omega), show S.length + q - S.length = q from by omega]
        cases q with
        | zero => rw [Nat.add_zero, List.getElem?_set_self (by rw [g3]; omega)]; rfl
        | succ q =>
          rw [List.getElem?_set_ne (by omega), List.getElem?_cons_succ, show fr + (S.length + (q + 1)) = fr + S.length + 1 + q from by omega]
          exact g7 q (by omega)
    · rw [List.length_append, List.length_cons] at hi1
      simp only
      rw [k7, List.getElem?_set_ne (by omega), g4 _ (by omega)]
      exact hC.z i (by omega) hi2
    · simp only; rw [k6]; exact hT2
    · simp only; rw [k8]; rfl
    · simp only; rw [k6, k7]
end Go.Proofs.YtdnioigcgggdbaaGreatDoor
namespace Go.Proofs.YtdnioigcgggdbaaGreatDoor
open Go.RowKit

/-- all is sure; or the last record's first sector waits. -/
inductive Kept1 (d : Dd) (fr mn : Nat) (ls : List (List UInt8)) : Prop
  | sure (h1 : d.su = d.no) (h2 : d.wa = [])
  | last (l0 : List (List UInt8)) (b x : List UInt8) (h : ls = l0 ++ [b]) (ht : Torn d.su fr mn (sects 0 l0)) (hw : d.wa = [(fr + (sects 0 l0).length, x)]) (hn : d.no = d.su.set (fr + (sects 0 l0).length) x)
/-- a disk, without a fuse, on which these records stand in these sectors, and nothing else does. -/
structure Kp (d : Dd) (fr mn : Nat) (ls : List (List UInt8)) : Prop where
  free : d.free
  len : d.su.length = d.no.length
  cl : Clean d.no fr mn (sects 0 ls)
  b6 : ∀ b ∈ ls, b.length ≤ 256
  w : Kept1 d fr mn ls
theorem sects_snoc0 (l : List (List UInt8)) (b : List UInt8) : sects 0 (l ++ [b]) = sects 0 l ++ frS (l.length + 1) b := by
  rw [sects_snoc, Nat.zero_add]
section
variable {d : Dd} {fr mn : Nat} {ls : List (List UInt8)} {b : List UInt8}
theorem Kp.new (l : List (List UInt8)) (h : Clean l fr mn (sects 0 ls)) (hb : ∀ b ∈ ls, b.length ≤ 256) : Kp (dnew l) fr mn ls := ⟨free_new l, rfl, h, hb, .sure rfl rfl⟩
theorem Kp.sync (h : Kp d fr mn ls) : d.sync = (dnew d.no, 0) ∧ Kp (dnew d.no) fr mn ls := ⟨sync_free h.free, Kp.new _ h.cl h.b6⟩
theorem Kp.le (h : Kp d fr mn ls) : (sects 0 ls).length ≤ mn := h.cl.sl
theorem addF (hf : d.free) (hsu : d.su.length = d.no.length) (hC : Clean d.no fr mn (sects 0 ls)) (hb6 : ∀ b ∈ ls, b.length ≤ 256) (hb : b.length ≤ 256) (hr : (sects 0 ls).length + secs b.length ≤ mn) :
    ∃ d', runS (stepsF (fr + (sects 0 ls).length) (frS (ls.length + 1) b)) d = (d', 0) ∧ Kp d' fr mn (ls ++ [b]) ∧ d'.wa.length = 1 ∧ Outside fr mn d.no d'.no := by
  obtain ⟨d', e, h1, h2, h3, h4, h5, h6, h7⟩ := steps_out (F := frS (ls.length + 1) b) hsu hC (frS_64 _ _) (by rw [frS_len]; exact secs_1 _) (by rw [frS_len]; exact secs_5 hb) (by rw [frS_len]; exact hr)
  obtain ⟨rfl, hf'⟩ := h3 hf
  obtain ⟨k1, k2, x, k3, k4⟩ := h6 rfl
  refine ⟨d', h1, ⟨hf', h4, by rw [sects_snoc0]; exact k1, fun y hy => ?_, .last ls b x rfl k2 k3 k4⟩, by rw [k3]; rfl, h5⟩
  rcases List.mem_append.1 hy with h | h
  · exact hb6 y h
  · obtain rfl := List.mem_singleton.1 h; exact hb
theorem Kp.add (h : Kp d fr mn ls) (hb : b.length ≤ 256) (hr : (sects 0 ls).length + secs b.length ≤ mn) :
    ∃ d', runS (stepsF (fr + (sects 0 ls).length) (frS (ls.length + 1) b)) d = (d', 0) ∧ Kp d' fr mn (ls ++ [b]) ∧ d'.wa.length = 1 ∧ Outside fr mn d.no d'.no := addF h.free h.len h.cl h.b6 hb hr
/-- whatever of what waits is kept, all records stand there, or all but the last one, where that one waits. -/
theorem Kp.fail (h : Kp d fr mn ls) (kept : List Bool) : ∃ l0, (l0 = ls ∨ (d.wa ≠ [] ∧ ∃ b, ls = l0 ++ [b])) ∧ Torn (failK d.su d.wa kept (min d.wa.length kept.length)) fr mn (sects 0 l0) := by
  rcases h.w with ⟨h1, h2⟩ | ⟨l0, b, x, he, ht, hw, hn⟩
  · refine ⟨ls, .inl rfl, ?_⟩
    rw [h2, List.length_nil, failK_nil, h1]
    exact h.cl.torn
  · rw [hw]
    rcases failK_one d.su (fr + (sects 0 l0).length) x kept with hk | hk
    · refine ⟨l0, .inr ⟨by simp, b, he⟩, ?_⟩
      rw [List.length_singleton, hk]
      exact ht
    · refine ⟨ls, .inl rfl, ?_⟩
      rw [List.length_singleton, hk, ← hn]
      exact h.cl.torn
end
end Go.Proofs.YtdnioigcgggdbaaGreatDoor
set_option linter.unusedVariables false
set_option linter.unusedSimpArgs false
namespace Go.Proofs.YtdnioigcgggdbaaGreatDoor
open Go.RowKit

section
variable {W : World} {L L' L0 : List Ent} {R : Ending → World → Prop}
theorem pow_le7 {k : Nat} (h : k ≤ 7) : 256 ^ k ≤ 72057594037927936 := by
  have := Nat.pow_le_pow_right (n := 256) (by decide) h
  exact this
set_option maxRecDepth 100000 in
set_option maxHeartbeats 1000000 in
theorem power_k {m : Nat} {M : Int} (hM : M = (m : Int)) (hm : m ≤ 7) (H : Holds W L) (k : ∀ w', Holds w' L → R (.returned (.int .u64 ((256 ^ m : Nat) : Int))) w') :
    Calls Tryz.prog 128 #[.int .i64 M] W R := by
  subst hM
  have HK := Lib.hid k; clear k
  go_enter Tryz.func128, Tryz.ntmps128
  go_wp2_with (first | go_big_skip )
  go_loopw [3, 4] (fun x i wr => ∃ (k v : Nat), k ≤ m ∧ Hid (v = 256 ^ k) ∧ x = .int .u64 (v : Nat) ∧ i = .int .i64 k ∧ Holds wr L) (fun _ i _ => m - (intOf i).toNat)
  case atStart => exact ⟨0, 1, Nat.zero_le _, rfl, rfl, rfl, H⟩
  case round =>
    clear H
    obtain ⟨k, v, hk, Hv, rfl, rfl, H⟩ := hrel
    rename World => W
    by_cases hlt : k < m
    · have hki : (k : Int) < m := by omega
      have hv : 256 * v ≤ 72057594037927936 := by
        have := pow_le7 (k := k + 1) (by omega)
        rw [Nat.pow_succ, ← Hv.out] at this
        omega
      go_wp2_with (first | go_big_skip )
      exact ⟨⟨k + 1, 256 * v, by omega, Lib.hid (by rw [Nat.pow_succ, ← Hv.out]; omega), congrArg (Value.int .u64) (by omega), congrArg (Value.int .i64) (by omega), H⟩, by simp only [intOf]; omega⟩
    · have hkm : k = m := by omega
      subst hkm
      have hki : ¬ (k : Int) < k := by omega
      rw [← Hv.out] at HK
      go_wp2_with (first | go_big_skip )
      exact HK.out _ H
end
end Go.Proofs.YtdnioigcgggdbaaGreatDoor
