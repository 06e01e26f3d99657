/-
  stores: plain laws: a region that is clean, or torn behind its end; what Open and Add come to there.
  stores: plain laws: a disk that keeps a store's records.
-/
import Derived.Test.YtdnioigcgggdbaaSp1
set_option linter.unusedVariables false
set_option linter.unusedSimpArgs false
namespace Go.Proofs.Ytdnioigcgggdbaa
open Go.RowKit

/-! ### frames as sectors -/
theorem chunk_len : ∀ (n : Nat) (x : List UInt8), (chunk n x).length = n
  | 0, _ => rfl
  | n + 1, x => by rw [chunk, List.length_cons, chunk_len n]
theorem chunk_flat : ∀ (n : Nat) (x : List UInt8), x.length = n * 64 → (chunk n x).flatten = x
  | 0, x, h => by
    have := List.eq_nil_of_length_eq_zero (show x.length = 0 by omega)
    subst this; rfl
  | n + 1, x, h => by rw [chunk, List.flatten_cons, chunk_flat n (x.drop 64) (by rw [List.length_drop]; omega), List.take_append_drop]
theorem chunk_64 : ∀ (n : Nat) (x : List UInt8), x.length = n * 64 → ∀ s ∈ chunk n x, s.length = 64
  | 0, x, _, s, h => by cases h
  | n + 1, x, hx, s, h => by
    rw [chunk] at h
    rcases List.mem_cons.1 h with rfl | h
    · rw [List.length_take]; omega
    · exact chunk_64 n (x.drop 64) (by rw [List.length_drop]; omega) s h
theorem chunk_at : ∀ (n : Nat) (x : List UInt8) (i : Nat), i < n → (chunk n x)[i]? = some ((x.drop (i * 64)).take 64)
  | n + 1, x, 0, _ => by simp [chunk]
  | n + 1, x, i + 1, h => by
    rw [chunk, List.getElem?_cons_succ, chunk_at n _ i (by omega), List.drop_drop, show 64 + i * 64 = (i + 1) * 64 from by omega]
theorem secs_1 (n : Nat) : 1 ≤ secs n := by unfold secs; omega
theorem secs_5 {n : Nat} (h : n ≤ 256) : secs n ≤ 5 := by unfold secs; omega
theorem frS_len (k : Nat) (b : List UInt8) : (frS k b).length = secs b.length := chunk_len _ _
theorem frS_flat (k : Nat) (b : List UInt8) : (frS k b).flatten = putF k b := chunk_flat _ _ (putF_len k b)
theorem frS_64 (k : Nat) (b : List UInt8) : ∀ s ∈ frS k b, s.length = 64 := chunk_64 _ _ (putF_len k b)
/-- the sectors of records, behind k of them. -/
def sects : Nat → List (List UInt8) → List (List UInt8)
  | _, [] => []
  | k, b :: l => frS (k + 1) b ++ sects (k + 1) l
theorem sects_snoc : ∀ (l : List (List UInt8)) (k : Nat) (b : List UInt8), sects k (l ++ [b]) = sects k l ++ frS (k + l.length + 1) b
  | [], k, b => by simp [sects]
  | a :: l, k, b => by
    rw [List.cons_append, sects, sects_snoc l (k + 1) b, sects, List.append_assoc, List.length_cons, show k + 1 + l.length = k + (l.length + 1) from by omega]
theorem sects_ge : ∀ (l : List (List UInt8)) (k : Nat), l.length ≤ (sects k l).length
  | [], _ => Nat.le_refl _
  | b :: l, k => by
    have := sects_ge l (k + 1)
    have h1 := secs_1 b.length
    rw [sects, List.length_append, frS_len, List.length_cons]
    omega
theorem sects_le : ∀ (l : List (List UInt8)) (k : Nat), (∀ b ∈ l, b.length ≤ 256) → (sects k l).length ≤ 5 * l.length
  | [], _, _ => Nat.le_refl _
  | b :: l, k, h => by
    have := sects_le l (k + 1) fun x hx => h x (.tail _ hx)
    have h1 := secs_5 (h b (.head _))
    rw [sects, List.length_append, frS_len, List.length_cons]
    omega
theorem readR_sects : ∀ (l : List (List UInt8)) (f k : Nat) (T : List UInt8), (∀ b ∈ l, b.length ≤ 256) → k + l.length < 18446744073709551616 → l.length < f → fErr T ≠ 0 → readR f k ((sects k l).flatten ++ T) = (l, (sects k l).length)
  | [], f, k, T, _, _, hf, hT => by
    obtain ⟨f, rfl⟩ : ∃ g, f = g + 1 := ⟨f - 1, by simp at hf; omega⟩
    rw [readR, if_neg (fun h => hT (by simpa [sects] using h.1))]
    rfl
  | b :: l, f, k, T, hb, hk, hf, hT => by
    obtain ⟨f, rfl⟩ : ∃ g, f = g + 1 := ⟨f - 1, by simp at hf; omega⟩
    rw [List.length_cons] at hk hf
    have e : (sects k (b :: l)).flatten ++ T = putF (k + 1) b ++ ((sects (k + 1) l).flatten ++ T) := by
      rw [sects, List.flatten_append, frS_flat, List.append_assoc]
    obtain ⟨h1, h2, h3, h4⟩ := back (num := k + 1) (b := b) (by omega) (hb b (.head _)) ((sects (k + 1) l).flatten ++ T)
    rw [e, readR, if_pos ⟨h1, h2⟩, h3, h4, drop_app (putF_len (k + 1) b), readR_sects l f (k + 1) T (fun x hx => hb x (.tail _ hx)) (by omega) (by omega) hT]
    rw [sects, List.length_append, frS_len]
theorem fErr_nil : fErr [] ≠ 0 := by decide
theorem fErr_z (y : List UInt8) : fErr (zsec ++ y) ≠ 0 := by
  have h4 : (zsec ++ y).take 4 = [0, 0, 0, 0] := by
    rw [List.take_append_of_le_length (by decide)]
    rfl
  unfold fErr
  rw [if_neg (by rw [List.length_append]; have : zsec.length = 64 := rfl; omega), if_pos (fun h => by rw [h4] at h; exact absurd h.1 (by decide))]
  decide

/-! ### a region -/
/-- the first sectors of a region are these; the next one is noughts, and so are those from the fifth one on. -/
structure Torn (l : List (List UInt8)) (fr mn : Nat) (S : List (List UInt8)) : Prop where
  le : fr + mn ≤ l.length
  sl : S.length ≤ mn
  at_ : ∀ i, i < S.length → l[fr + i]? = S[i]?
  z0 : S.length < mn → l[fr + S.length]? = some zsec
  z5 : ∀ i, S.length + 5 ≤ i → i < mn → l[fr + i]? = some zsec
/-- the first sectors of a region are these, the others noughts. -/
structure Clean (l : List (List UInt8)) (fr mn : Nat) (S : List (List UInt8)) : Prop where
  le : fr + mn ≤ l.length
  sl : S.length ≤ mn
  at_ : ∀ i, i < S.length → l[fr + i]? = S[i]?
  z : ∀ i, S.length ≤ i → i < mn → l[fr + i]? = some zsec
/-- nothing else than the region is another one. -/
def Outside (fr mn : Nat) (l l' : List (List UInt8)) : Prop := l'.length = l.length ∧ ∀ j, j < fr ∨ fr + mn ≤ j → l'[j]? = l[j]?
theorem Outside.refl (fr mn : Nat) (l : List (List UInt8)) : Outside fr mn l l := ⟨rfl, fun _ _ => rfl⟩
theorem Outside.trans {fr mn : Nat} {l l' l'' : List (List UInt8)} (h : Outside fr mn l l') (h' : Outside fr mn l' l'') : Outside fr mn l l'' := ⟨h'.1.trans h.1, fun j hj => (h'.2 j hj).trans (h.2 j hj)⟩
theorem Clean.torn {l : List (List UInt8)} {fr mn : Nat} {S : List (List UInt8)} (h : Clean l fr mn S) : Torn l fr mn S :=
  ⟨h.le, h.sl, h.at_, fun hlt => h.z _ (Nat.le_refl _) hlt, fun i h1 h2 => h.z i (by omega) h2⟩
/-- another region's writes do not disturb. -/
theorem Clean.other {l l' : List (List UInt8)} {fr mn fr2 mn2 : Nat} {S : List (List UInt8)} (h : Clean l fr mn S) (ho : Outside fr2 mn2 l l') (hd : fr + mn ≤ fr2 ∨ fr2 + mn2 ≤ fr) : Clean l' fr mn S := by
  have hsl := h.sl
  refine ⟨by rw [ho.1]; exact h.le, hsl, fun i hi => ?_, fun i h1 h2 => ?_⟩
  · rw [ho.2 _ (by omega)]; exact h.at_ i hi
  · rw [ho.2 _ (by omega)]; exact h.z i h1 h2
theorem Clean.same {l l' : List (List UInt8)} {fr mn : Nat} {S : List (List UInt8)} (h : Clean l fr mn S) (h' : Clean l' fr mn S) (ho : Outside fr mn l l') : l' = l := by
  apply List.ext_getElem?
  intro j
  by_cases hj : j < fr ∨ fr + mn ≤ j
  · exact ho.2 j hj
  · obtain ⟨i, rfl⟩ : ∃ i, j = fr + i := ⟨j - fr, by omega⟩
    by_cases hi : i < S.length
    · rw [h.at_ i hi, h'.at_ i hi]
    · rw [h.z i (by omega) (by omega), h'.z i (by omega) (by omega)]
theorem Torn.set {l : List (List UInt8)} {fr mn : Nat} {S : List (List UInt8)} (h : Torn l fr mn S) {n : Nat} (y : List UInt8) (h1 : fr + S.length < n) (h2 : n < fr + S.length + 5) : Torn (l.set n y) fr mn S := by
  refine ⟨by rw [List.length_set]; exact h.le, h.sl, fun i hi => ?_, fun hlt => ?_, fun i h3 h4 => ?_⟩
  · rw [List.getElem?_set_ne (by omega)]; exact h.at_ i hi
  · rw [List.getElem?_set_ne (by omega)]; exact h.z0 hlt
  · rw [List.getElem?_set_ne (by omega)]; exact h.z5 i h3 h4
theorem failK_torn {su : List (List UInt8)} {wa : List (Nat × List UInt8)} {kept : List Bool} {fr mn : Nat} {S : List (List UInt8)} (h : Torn su fr mn S) (hw : ∀ y ∈ wa, fr + S.length < y.1 ∧ y.1 < fr + S.length + 5) : ∀ k, Torn (failK su wa kept k) fr mn S
  | 0 => h
  | k + 1 => by
    rw [failK]
    split
    · rename_i x h1 h2
      have := hw x (List.mem_of_getElem? h1)
      exact (failK_torn h hw k).set _ this.1 this.2
    · exact failK_torn h hw k
theorem failK_one (su : List (List UInt8)) (p : Nat) (x : List UInt8) (kept : List Bool) : failK su [(p, x)] kept (min 1 kept.length) = su ∨ failK su [(p, x)] kept (min 1 kept.length) = su.set p x := by
  rcases kept with _ | ⟨b, kept⟩
  · exact .inl rfl
  · rw [List.length_cons, show min 1 (kept.length + 1) = 0 + 1 from by omega, failK]
    cases b with
    | true => exact .inr rfl
    | false => exact .inl rfl
theorem failK_nil (su : List (List UInt8)) (kept : List Bool) : failK su [] kept (min 0 kept.length) = su := by
  rw [Nat.zero_min]; rfl
theorem rep_zsec {s : List UInt8} (h : s.any (· != 0) = false) (h64 : s.length = 64) : s = zsec := by
  have := rep_of_any h
  rw [h64] at this
  exact this
theorem zsec_any : zsec.any (· != 0) = false := by decide
theorem region_split {l : List (List UInt8)} {fr mn : Nat} {S : List (List UInt8)} (h : Torn l fr mn S) : (l.drop fr).take mn = S ++ ((l.drop fr).take mn).drop S.length := by
  have e : ((l.drop fr).take mn).take S.length = S := by
    apply List.ext_getElem?
    intro i
    rw [List.take_take, Nat.min_eq_left h.sl, List.getElem?_take, List.getElem?_drop]
    split
    · exact h.at_ i ‹_›
    · rw [List.getElem?_eq_none (by omega)]
  have := List.take_append_drop S.length ((l.drop fr).take mn)
  rw [e] at this
  exact this.symm
theorem flatN_eq (d : Dd) (fr : Nat) : ∀ j, fr + j ≤ d.no.length → flatN d fr j = ((d.no.drop fr).take j).flatten
  | 0, _ => by simp [flatN]
  | j + 1, h => by
    have hj : d.no[fr + j]? = some d.no[fr + j] := List.getElem?_eq_getElem (by omega)
    rw [flatN, flatN_eq d fr j (by omega), List.take_add_one, List.getElem?_drop, hj, List.flatten_append]
    unfold Dd.sec
    rw [hj]
    simp
theorem mem_dirtyN (d : Dd) (fr i : Nat) : ∀ j, i ∈ dirtyN d fr j ↔ i < j ∧ (d.sec (fr + i)).any (· != 0) = true
  | 0 => ⟨fun h => by (simp [dirtyN] at h), fun h => absurd h.1 (by omega)⟩
  | j + 1 => by
    have ih := mem_dirtyN d fr i j
    rw [dirtyN]
    split
    · rename_i hz
      rw [List.mem_append, ih, List.mem_singleton]
      constructor
      · rintro (⟨h1, h2⟩ | rfl)
        · exact ⟨by omega, h2⟩
        · exact ⟨by omega, hz⟩
      · rintro ⟨h1, h2⟩
        by_cases he : i = j
        · exact .inr he
        · exact .inl ⟨by omega, h2⟩
    · rename_i hz
      rw [ih]
      constructor
      · rintro ⟨h1, h2⟩; exact ⟨by omega, h2⟩
      · rintro ⟨h1, h2⟩
        refine ⟨?_, h2⟩
        by_cases he : i = j
        · subst he; exact absurd h2 hz
        · omega
theorem mem_keptN {en : Nat} {l : List Nat} {i : Nat} : i ∈ keptN en l ↔ i ∈ l ∧ en ≤ i := by
  unfold keptN
  rw [List.mem_filter]
  simp

/-! ### the disk -/
/-- no fuse. -/
def Dd.free (d : Dd) : Prop := d.lf = -1 ∧ d.bl = false
theorem Dd.free.sp {d : Dd} (h : d.free) : spentB d.lf d.bl = false ∧ spentL d.lf d.bl = -1 := by
  rw [h.1, h.2]; exact ⟨rfl, rfl⟩
theorem write_at (d : Dd) {n : Nat} {b : List UInt8} (hn : n < d.su.length) (hb : b.length ≤ 64) : d.write (n : Int) b = if spentB d.lf d.bl then (d.spend, 9) else (⟨d.su, d.no.set n (padS b), d.wa ++ [(n, padS b)], spentL d.lf d.bl, false⟩, 0) := by
  unfold Dd.write
  rw [if_neg (by omega), Int.toNat_natCast]
theorem write_free {d : Dd} (h : d.free) {n : Nat} {b : List UInt8} (hn : n < d.su.length) (hb : b.length ≤ 64) : d.write (n : Int) b = (⟨d.su, d.no.set n (padS b), d.wa ++ [(n, padS b)], -1, false⟩, 0) := by
  rw [write_at d hn hb, h.sp.1, h.sp.2]; rfl
theorem sync_free {d : Dd} (h : d.free) : d.sync = (dnew d.no, 0) := by
  obtain ⟨su, no, wa, lf, bl⟩ := d
  obtain ⟨rfl, rfl⟩ : lf = -1 ∧ bl = false := h
  rfl
theorem free_new (l : List (List UInt8)) : (dnew l).free := ⟨rfl, rfl⟩
theorem padS_nil : padS [] = zsec := rfl
theorem padS_64 {s : List UInt8} (h : s.length = 64) : padS s = s := by
  unfold padS
  rw [h]; simp
theorem free_eta {d : Dd} (h : d.free) : d = ⟨d.su, d.no, d.wa, -1, false⟩ := by
  obtain ⟨su, no, wa, lf, bl⟩ := d
  obtain ⟨rfl, rfl⟩ : lf = -1 ∧ bl = false := h
  rfl
theorem wipe_free (fr : Nat) : ∀ (D : List Nat) (d : Dd), d.free → (∀ i ∈ D, fr + i < d.su.length) → ∃ l' wa', wipe fr D d = (⟨d.su, l', wa', -1, false⟩, 0) ∧ l'.length = d.no.length ∧
    ∀ j, j < d.no.length → ((∃ i ∈ D, fr + i = j) → l'[j]? = some zsec) ∧ ((¬ ∃ i ∈ D, fr + i = j) → l'[j]? = d.no[j]?)
  | [], d, hf, _ => ⟨d.no, d.wa, by rw [wipe_nil]; rw [← free_eta hf], rfl, fun j _ => ⟨fun h => (by obtain ⟨i, h, _⟩ := h; cases h), fun _ => rfl⟩⟩
  | i :: D, d, hf, hD => by
    have hw := write_free hf (b := []) (hD i (.head _)) (by simp)
    obtain ⟨l', wa', h1, h2, h3⟩ := wipe_free fr D ⟨d.su, d.no.set (fr + i) (padS []), d.wa ++ [(fr + i, padS [])], -1, false⟩ ⟨rfl, rfl⟩ (fun x hx => hD x (.tail _ hx))
    refine ⟨l', wa', ?_, by rw [h2, List.length_set], fun j hj => ?_⟩
    · rw [wipe_cons, hw, if_pos rfl]; exact h1
    · have h4 := h3 j (by rw [List.length_set]; exact hj)
      by_cases hm : ∃ x ∈ D, fr + x = j
      · exact ⟨fun _ => h4.1 hm, fun h => absurd (Exists.elim hm fun x hx => ⟨x, .tail _ hx.1, hx.2⟩) h⟩
      · have h5 := h4.2 hm
        rw [padS_nil] at h5
        simp only at h5
        by_cases he : fr + i = j
        · subst he
          rw [List.getElem?_set_self hj] at h5
          exact ⟨fun _ => h5, fun h => absurd ⟨i, .head _, rfl⟩ h⟩
        · rw [List.getElem?_set_ne he] at h5
          refine ⟨fun ⟨x, h6, h7⟩ => ?_, fun _ => h5⟩
          rcases List.mem_cons.1 h6 with rfl | h6
          · exact absurd h7 he
          · exact absurd ⟨x, h6, h7⟩ hm
theorem open_torn {d : Dd} {fr mn : Nat} {ls : List (List UInt8)} (hf : d.free) (h64 : ∀ s ∈ d.no, s.length = 64) (hsu : d.su.length = d.no.length) (hmn : mn ≤ 4096) (hT : Torn d.no fr mn (sects 0 ls)) (hb : ∀ b ∈ ls, b.length ≤ 256) :
    ∃ l', openR d fr mn = (dnew l', some ⟨fr, mn, (sects 0 ls).length, ls⟩, 0) ∧ Clean l' fr mn (sects 0 ls) ∧ Outside fr mn d.no l' := by
  have hge := sects_ge ls 0
  have hsl := hT.sl
  have hle := hT.le
  obtain ⟨S, hS⟩ : ∃ S, sects 0 ls = S := ⟨_, rfl⟩
  obtain ⟨T, hTT⟩ : ∃ T, ((d.no.drop fr).take mn).drop S.length = T := ⟨_, rfl⟩
  have hsp := region_split hT
  rw [hS] at hsp hT hge hsl ⊢
  rw [hTT] at hsp
  have hTz : fErr T.flatten ≠ 0 := by
    by_cases hlt : S.length < mn
    · have h0 : T[0]? = some zsec := by
        rw [← hTT, List.getElem?_drop, List.getElem?_take, if_pos (by omega), List.getElem?_drop, Nat.add_zero]
        exact hT.z0 hlt
      match T, h0 with
      | z :: T, h0 =>
        obtain rfl : z = zsec := by simpa using h0
        rw [List.flatten_cons]
        exact fErr_z _
    · have : T = [] := by
        rw [← hTT]
        exact List.drop_of_length_le (by rw [List.length_take]; omega)
      rw [this]
      exact fErr_nil
  have hrd : readR (mn + 1) 0 (flatN d fr mn) = (ls, S.length) := by
    rw [flatN_eq d fr mn hle, hsp, List.flatten_append, ← hS]
    exact readR_sects ls (mn + 1) 0 _ hb (by omega) (by omega) hTz
  have g1 : regE d fr mn = S.length := by unfold regE; rw [hrd]
  have g2 : regR d fr mn = ls := by unfold regR; rw [hrd]
  have hD : ∀ i, i ∈ regD d fr mn ↔ i < mn ∧ (d.sec (fr + i)).any (· != 0) = true ∧ S.length ≤ i := fun i => by
    unfold regD
    rw [mem_keptN, mem_dirtyN, g1, and_assoc]
  have hz : ∀ i, i < mn → d.no[fr + i]? = some zsec → i ∉ regD d fr mn := fun i _ h hm => by
    have := ((hD i).1 hm).2.1
    unfold Dd.sec at this
    rw [h, Option.getD_some, zsec_any] at this
    cases this
  have hbad : ((regD d fr mn).any fun i => decide (regE d fr mn + 5 ≤ i)) = false := by
    rw [List.any_eq_false]
    intro i hi h
    have h5 := of_decide_eq_true h
    rw [g1] at h5
    have h6 := (hD i).1 hi
    exact hz i h6.1 (hT.z5 i h5 h6.1) hi
  obtain ⟨l', wa', h1, h2, h3⟩ := wipe_free fr (regD d fr mn) d hf fun i hi => by
    have := ((hD i).1 hi).1
    omega
  refine ⟨l', ?_, ⟨by rw [h2]; exact hle, hsl, fun i hi => ?_, fun i hi1 hi2 => ?_⟩, h2, fun j hj => ?_⟩
  · unfold openR
    rw [hbad, if_neg (by decide), h1, g1, g2]
    rfl
  · rw [(h3 (fr + i) (by omega)).2 ?_, hT.at_ i hi]
    rintro ⟨x, hx, he⟩
    have := ((hD x).1 hx).2.2
    omega
  · by_cases hm : i ∈ regD d fr mn
    · exact (h3 (fr + i) (by omega)).1 ⟨i, hm, rfl⟩
    · rw [(h3 (fr + i) (by omega)).2 ?_]
      · have hlt : fr + i < d.no.length := by omega
        rw [List.getElem?_eq_getElem hlt]
        congr 1
        refine rep_zsec ?_ (h64 _ (List.getElem_mem hlt))
        cases hc : (d.no[fr + i]).any (· != 0) with
        | false => rfl
        | true => exact absurd ((hD i).2 ⟨hi2, by unfold Dd.sec; rw [List.getElem?_eq_getElem hlt]; exact hc, hi1⟩) hm
      · rintro ⟨x, hx, he⟩
        obtain rfl : x = i := by omega
        exact hm hx
  · by_cases hjl : j < d.no.length
    · refine (h3 j hjl).2 ?_
      rintro ⟨x, hx, he⟩
      have := ((hD x).1 hx).1
      omega
    · rw [List.getElem?_eq_none (by omega), List.getElem?_eq_none (by omega)]
theorem open_clean {d : Dd} {fr mn : Nat} {ls : List (List UInt8)} (hf : d.free) (h64 : ∀ s ∈ d.no, s.length = 64) (hsu : d.su.length = d.no.length) (hmn : mn ≤ 4096) (hC : Clean d.no fr mn (sects 0 ls)) (hb : ∀ b ∈ ls, b.length ≤ 256) :
    openR d fr mn = (dnew d.no, some ⟨fr, mn, (sects 0 ls).length, ls⟩, 0) := by
  obtain ⟨l', h1, h2, h3⟩ := open_torn hf h64 hsu hmn hC.torn hb
  rw [h1, hC.same h2 h3]
theorem clean_new (n fr mn : Nat) (h : fr + mn ≤ n) : Clean (List.replicate n zsec) fr mn (sects 0 []) :=
  ⟨by rw [List.length_replicate]; exact h, Nat.zero_le _, fun i hi => absurd hi (by simp [sects]), fun i _ hi => List.getElem?_replicate_of_lt (by omega)⟩

/-! ### steps -/
theorem runS_append : ∀ (a b : List (Option (Nat × List UInt8))) (d : Dd), runS (a ++ b) d = if (runS a d).2 = 0 then runS b (runS a d).1 else runS a d
  | [], b, d => by simp [runS]
  | none :: a, b, d => by
    rw [List.cons_append, runS, runS]
    split
    · exact runS_append a b _
    · rfl
  | some x :: a, b, d => by
    rw [List.cons_append, runS, runS]
    split
    · exact runS_append a b _
    · rfl
theorem runS_wrs : ∀ (X : List (List UInt8)) (n : Nat) (d : Dd), (∀ s ∈ X, s.length = 64) → n + X.length ≤ d.su.length → d.su.length = d.no.length →
    ∃ d' e, runS (wrs n X) d = (d', e) ∧ d'.su = d.su ∧ d'.no.length = d.no.length ∧ (∀ j, j < n ∨ n + X.length ≤ j → d'.no[j]? = d.no[j]?) ∧ (∀ y ∈ d'.wa, y ∈ d.wa ∨ (n ≤ y.1 ∧ y.1 < n + X.length)) ∧ (e = 0 ∨ e = 9) ∧
      (e = 0 → ∀ i, i < X.length → d'.no[n + i]? = X[i]?) ∧ (d.free → e = 0 ∧ d'.free)
  | [], n, d, _, _, _ => ⟨d, 0, rfl, rfl, rfl, fun _ _ => rfl, fun y h => .inl h, .inl rfl, fun _ i hi => absurd hi (by simp), fun h => ⟨rfl, h⟩⟩
  | x :: X, n, d, hX, hn, hs => by
    rw [List.length_cons] at hn
    have hx := hX x (.head _)
    have hw := write_at d (n := n) (b := x) (by omega) (by omega)
    rw [padS_64 hx] at hw
    rw [wrs, runS]
    cases hsp : spentB d.lf d.bl with
    | true =>
      rw [hsp, if_pos rfl] at hw
      simp only [hw]
      rw [if_neg (by decide)]
      refine ⟨_, _, rfl, rfl, rfl, fun _ _ => rfl, fun y h => .inl h, .inr rfl, fun h => absurd h (by decide), fun h => ?_⟩
      have := h.sp.1
      rw [hsp] at this
      cases this
    | false =>
      rw [hsp, if_neg (by decide)] at hw
      simp only [hw, if_true]
      obtain ⟨d', e, h1, h2, h3, h4, h5, h6, h7, h8⟩ := runS_wrs X (n + 1) ⟨d.su, d.no.set n x, d.wa ++ [(n, x)], spentL d.lf d.bl, false⟩ (fun s hs => hX s (.tail _ hs)) (by simp only; omega) (by simp only [List.length_set]; exact hs)
      simp only [List.length_set] at h2 h3 h4 h5
      refine ⟨d', e, h1, h2, h3, fun j hj => ?_, fun y hy => ?_, h6, fun he i hi => ?_, fun h => h8 ⟨h.sp.2, rfl⟩⟩
      · rw [List.length_cons] at hj
        rw [h4 j (by omega), List.getElem?_set_ne (by omega)]
      · rw [List.length_cons]
        rcases h5 y hy with h | h
        · rcases List.mem_append.1 h with h | h
          · exact .inl h
          · obtain rfl := List.mem_singleton.1 h
            exact .inr ⟨Nat.le_refl _, by simp only; omega⟩
        · exact .inr ⟨by omega, by omega⟩
      · cases i with
        | zero => rw [Nat.add_zero, h4 n (by omega), List.getElem?_set_self (by omega)]; rfl
        | succ i =>
          rw [List.length_cons] at hi
          have := h7 he i (by omega)
          rw [show n + 1 + i = n + (i + 1) from by omega] at this
          rw [this, List.getElem?_cons_succ]
/-- a disk of which, whatever of what waits is lost, is left what is torn behind these sectors. -/
def Half (d : Dd) (fr mn : Nat) (S : List (List UInt8)) : Prop := Torn d.su fr mn S ∧ ∀ y ∈ d.wa, fr + S.length < y.1 ∧ y.1 < fr + S.length + 5
theorem sync_cases (d : Dd) : (d.sync = (d.spend, 9) ∧ ¬ d.free) ∨ (d.sync = (⟨d.no, d.no, [], spentL d.lf d.bl, false⟩, 0)) := by
  unfold Dd.sync
  cases h : spentB d.lf d.bl with
  | true =>
    refine .inl ⟨by rw [if_pos rfl], fun hf => ?_⟩
    have := hf.sp.1
    rw [h] at this
    cases this
  | false =>
    refine .inr ?_
    rw [if_neg (by decide)]
    unfold Dd.spend Dd.settle
    rw [h]
/-- what Add's steps come to. -/
theorem steps_out {d : Dd} {fr mn : Nat} {S F : List (List UInt8)} (hsu : d.su.length = d.no.length) (hC : Clean d.no fr mn S) (hF : ∀ s ∈ F, s.length = 64) (h1 : 1 ≤ F.length) (h5 : F.length ≤ 5) (hm : S.length + F.length ≤ mn) :
    ∃ d' e, runS (stepsF (fr + S.length) F) d = (d', e) ∧ (e = 0 ∨ e = 9) ∧ (d.free → e = 0 ∧ d'.free) ∧ d'.su.length = d'.no.length ∧ Outside fr mn d.no d'.no ∧
      (e = 0 → Clean d'.no fr mn (S ++ F) ∧ Torn d'.su fr mn S ∧ ∃ x, d'.wa = [(fr + S.length, x)] ∧ d'.no = d'.su.set (fr + S.length) x) ∧
      (e = 9 → Half d fr mn S → Half d' fr mn S) := by
  have hle := hC.le
  obtain ⟨x0, X, rfl⟩ : ∃ x X, F = x :: X := by
    cases F with
    | nil => simp at h1
    | cons x X => exact ⟨x, X, rfl⟩
  have hx0 := hF x0 (.head _)
  have hX : ∀ s ∈ X, s.length = 64 := fun s hs => hF s (.tail _ hs)
  rw [List.length_cons] at h1 h5 hm
  unfold stepsF
  rw [List.drop_succ_cons, List.drop_zero, List.getElem?_cons_zero, Option.getD_some, runS]
  rcases sync_cases d with ⟨hs, hnf⟩ | hs
  · -- the first Sync is not let be
    rw [hs, if_neg (show ¬ ((9 : Int) = 0) by decide)]
    exact ⟨_, _, rfl, .inr rfl, fun h => absurd h hnf, hsu, Outside.refl _ _ _, fun h => absurd h (by decide), fun _ h => h⟩
  rw [hs, if_pos rfl]
  simp only
  generalize hd1 : (⟨d.no, d.no, [], spentL d.lf d.bl, false⟩ : Dd) = d1
  have e1 : d1.su = d.no ∧ d1.no = d.no ∧ d1.wa = [] := by subst hd1; exact ⟨rfl, rfl, rfl⟩
  have f1 : d.free → d1.free := fun h => by subst hd1; exact ⟨h.sp.2, rfl⟩
  clear hd1 hs
  rw [runS_append]
  obtain ⟨d2, e, g1, g2, g3, g4, g5, g6, g7, g8⟩ := runS_wrs X (fr + S.length + 1) d1 hX (by rw [e1.1]; omega) (by rw [e1.1, e1.2.1])
  rw [e1.1] at g2
  rw [e1.2.1] at g3 g4
  rw [e1.2.2] at g5
  have hO2 : Outside fr mn d.no d2.no := ⟨g3, fun j hj => g4 j (by omega)⟩
  have hH2 : Half d2 fr mn S := ⟨by rw [g2]; exact hC.torn, fun y hy => by
    rcases g5 y hy with h | h
    · cases h
    · omega⟩
  rw [g1]
  simp only
  rcases g6.symm with rfl | rfl
  · rw [if_neg (by decide)]
    exact ⟨_, _, rfl, .inr rfl, fun h => absurd (g8 (f1 h)).1 (by decide), by rw [g2, g3], hO2, fun h => absurd h (by decide), fun _ _ => hH2⟩
  rw [if_pos rfl]
  have f2 : d.free → d2.free := fun h => (g8 (f1 h)).2
  have g7 := g7 rfl
  -- what stands behind the frame's other sectors
  have hT2 : Torn d2.no fr mn S := ⟨by rw [g3]; exact hle, hC.sl, fun i hi => by rw [g4 _ (by omega)]; exact hC.at_ i hi, fun hlt => by rw [g4 _ (by omega)]; exact hC.z _ (Nat.le_refl _) hlt,
    fun i h3 h4 => by rw [g4 _ (by omega)]; exact hC.z i (by omega) h4⟩
  -- the second Sync
  have hsync : ∃ d3 e3, runS ((if (x0 :: X).length ≤ 1 then [] else [none]) ++ [some (fr + S.length, x0)]) d2 = (if e3 = 0 then runS [some (fr + S.length, x0)] d3 else (d3, e3)) ∧ (e3 = 0 ∨ e3 = 9) ∧ (d.free → e3 = 0 ∧ d3.free) ∧ (e3 = 0 → d3.su = d2.no ∧ d3.no = d2.no ∧ d3.wa = []) ∧ (e3 = 9 → Half d3 fr mn S ∧ d3.no = d2.no ∧ d3.su = d.no) := by
    by_cases hX1 : (x0 :: X).length ≤ 1
    · rw [if_pos hX1]
      have hX0 : X = [] := List.eq_nil_of_length_eq_zero (by rw [List.length_cons] at hX1; omega)
      subst hX0
      have g1' : (d1, (0 : Int)) = (d2, 0) := g1
      cases g1'
      exact ⟨d1, 0, by rw [if_pos rfl]; rfl, .inl rfl, fun h => ⟨rfl, f1 h⟩, fun _ => ⟨by rw [e1.1, e1.2.1], rfl, e1.2.2⟩, fun h => absurd h (by decide)⟩
    · rw [if_neg hX1]
      rcases sync_cases d2 with ⟨hs, hnf⟩ | hs
      · exact ⟨d2.spend, 9, by rw [List.singleton_append, runS, hs], .inr rfl, fun h => absurd (f2 h) hnf, fun h => absurd h (by decide), fun _ => ⟨hH2, rfl, g2⟩⟩
      · refine ⟨⟨d2.no, d2.no, [], spentL d2.lf d2.bl, false⟩, 0, ?_, .inl rfl, fun h => ⟨rfl, ?_⟩, fun _ => ⟨rfl, rfl, rfl⟩, fun h => absurd h (by decide)⟩
        · rw [List.singleton_append, runS, hs]
        · exact ⟨(f2 h).sp.2, rfl⟩
  obtain ⟨d3, e3, k1, k2, k3, k4, k5⟩ := hsync
  rw [k1]
  rcases k2.symm with rfl | rfl
  · rw [if_neg (by decide)]
    obtain ⟨k6, k7, k8⟩ := k5 rfl
    exact ⟨_, _, rfl, .inr rfl, fun h => absurd (k3 h).1 (by decide), by rw [k7, k8, g3], by rw [k7]; exact hO2, fun h => absurd h (by decide), fun _ _ => k6⟩
  rw [if_pos rfl]
  obtain ⟨k6, k7, k8⟩ := k4 rfl
  have hlen3 : d3.su.length = d.no.length := by rw [k6, g3]
  have hw := write_at d3 (n := fr + S.length) (b := x0) (by omega) (by omega)
  rw [padS_64 hx0] at hw
  rw [runS]
  cases hsp : spentB d3.lf d3.bl with
  | true =>
    rw [hsp, if_pos rfl] at hw
    simp only [hw]
    rw [if_neg (by decide)]
    refine ⟨_, _, rfl, .inr rfl, fun h => ?_, by simp only [Dd.spend]; rw [k6, k7], by simp only [Dd.spend]; rw [k7]; exact hO2, fun h => absurd h (by decide), fun _ _ => ⟨by simp only [Dd.spend]; rw [k6]; exact hT2, fun y hy => by simp only [Dd.spend] at hy; rw [k8] at hy; cases hy⟩⟩
    have := (k3 h).2.sp.1
    rw [hsp] at this
    cases this
  | false =>
    rw [hsp, if_neg (by decide)] at hw
    simp only [hw]
    refine ⟨_, _, rfl, .inl rfl, fun h => ⟨rfl, (k3 h).2.sp.2, rfl⟩, ?_, ⟨?_, fun j hj => ?_⟩, fun _ => ⟨⟨?_, ?_, fun i hi => ?_, fun i hi1 hi2 => ?_⟩, ?_, x0, ?_, ?_⟩, fun h => absurd h (by decide)⟩
    · simp only [List.length_set]; rw [k6, k7]
    · simp only [List.length_set]; rw [k7, g3]
    · simp only
      rw [List.getElem?_set_ne (by omega), k7]
      exact hO2.2 j hj
    · simp only [List.length_set]; rw [k7, g3]; exact hle
    · rw [List.length_append, List.length_cons]; omega
    · rw [List.length_append, List.length_cons] at hi
      simp only
      rw [k7]
      by_cases hiS : i < S.length
      · rw [List.getElem?_set_ne (by omega), List.getElem?_append_left hiS]
        exact hT2.at_ i hiS
      · obtain ⟨q, rfl⟩ : ∃ q, i = S.length + q := ⟨i - S.length, by omega⟩
        rw [List.getElem?_append_right (by omega), show S.length + q - S.length = q from by omega]
        cases q with
        | zero => rw [Nat.add_zero, List.getElem?_set_self (by rw [g3]; omega)]; rfl
        | succ q =>
          rw [List.getElem?_set_ne (by omega), List.getElem?_cons_succ, show fr + (S.length + (q + 1)) = fr + S.length + 1 + q from by omega]
          exact g7 q (by omega)
    · rw [List.length_append, List.length_cons] at hi1
      simp only
      rw [k7, List.getElem?_set_ne (by omega), g4 _ (by omega)]
      exact hC.z i (by omega) hi2
    · simp only; rw [k6]; exact hT2
    · simp only; rw [k8]; rfl
    · simp only; rw [k6, k7]
end Go.Proofs.Ytdnioigcgggdbaa
namespace Go.Proofs.Ytdnioigcgggdbaa
open Go.RowKit

/-- the store of these records, in these sectors. -/
def sdOf (fr mn : Nat) (ls : List (List UInt8)) : Sd := ⟨fr, mn, (sects 0 ls).length, ls⟩
/-- all is sure; or the last record's first sector waits. -/
inductive Kept1 (d : Dd) (fr mn : Nat) (ls : List (List UInt8)) : Prop
  | sure (h1 : d.su = d.no) (h2 : d.wa = [])
  | last (l0 : List (List UInt8)) (b x : List UInt8) (h : ls = l0 ++ [b]) (ht : Torn d.su fr mn (sects 0 l0)) (hw : d.wa = [(fr + (sects 0 l0).length, x)]) (hn : d.no = d.su.set (fr + (sects 0 l0).length) x)
/-- a disk, without a fuse, on which these records stand in these sectors, and nothing else does. -/
structure Kp (d : Dd) (fr mn : Nat) (ls : List (List UInt8)) : Prop where
  free : d.free
  len : d.su.length = d.no.length
  cl : Clean d.no fr mn (sects 0 ls)
  b6 : ∀ b ∈ ls, b.length ≤ 256
  w : Kept1 d fr mn ls
theorem sects_snoc0 (l : List (List UInt8)) (b : List UInt8) : sects 0 (l ++ [b]) = sects 0 l ++ frS (l.length + 1) b := by
  rw [sects_snoc, Nat.zero_add]
theorem snoc_inj {l l' : List (List UInt8)} {b b' : List UInt8} (h : l ++ [b] = l' ++ [b']) : l = l' ∧ b = b' := by
  have := List.append_inj' h rfl
  exact ⟨this.1, by simpa using this.2⟩
section
variable {d : Dd} {fr mn : Nat} {ls : List (List UInt8)} {b : List UInt8}
theorem Kp.new (l : List (List UInt8)) (h : Clean l fr mn (sects 0 ls)) (hb : ∀ b ∈ ls, b.length ≤ 256) : Kp (dnew l) fr mn ls := ⟨free_new l, rfl, h, hb, .sure rfl rfl⟩
theorem Kp.sync (h : Kp d fr mn ls) : d.sync = (dnew d.no, 0) ∧ Kp (dnew d.no) fr mn ls := ⟨sync_free h.free, Kp.new _ h.cl h.b6⟩
theorem Kp.le (h : Kp d fr mn ls) : (sects 0 ls).length ≤ mn := h.cl.sl
theorem Kp.wa1 (h : Kp d fr mn ls) : d.wa.length ≤ 1 := by
  rcases h.w with ⟨_, h2⟩ | ⟨_, _, _, _, _, hw, _⟩
  · rw [h2]; exact Nat.zero_le _
  · rw [hw]; exact Nat.le_refl _
theorem addF (hf : d.free) (hsu : d.su.length = d.no.length) (hC : Clean d.no fr mn (sects 0 ls)) (hb6 : ∀ b ∈ ls, b.length ≤ 256) (hb : b.length ≤ 256) (hr : (sects 0 ls).length + secs b.length ≤ mn) :
    ∃ d', runS (stepsF (fr + (sects 0 ls).length) (frS (ls.length + 1) b)) d = (d', 0) ∧ Kp d' fr mn (ls ++ [b]) ∧ d'.wa.length = 1 ∧ Outside fr mn d.no d'.no := by
  obtain ⟨d', e, h1, h2, h3, h4, h5, h6, h7⟩ := steps_out (F := frS (ls.length + 1) b) hsu hC (frS_64 _ _) (by rw [frS_len]; exact secs_1 _) (by rw [frS_len]; exact secs_5 hb) (by rw [frS_len]; exact hr)
  obtain ⟨rfl, hf'⟩ := h3 hf
  obtain ⟨k1, k2, x, k3, k4⟩ := h6 rfl
  refine ⟨d', h1, ⟨hf', h4, by rw [sects_snoc0]; exact k1, fun y hy => ?_, .last ls b x rfl k2 k3 k4⟩, by rw [k3]; rfl, h5⟩
  rcases List.mem_append.1 hy with h | h
  · exact hb6 y h
  · obtain rfl := List.mem_singleton.1 h; exact hb
theorem Kp.add (h : Kp d fr mn ls) (hb : b.length ≤ 256) (hr : (sects 0 ls).length + secs b.length ≤ mn) :
    ∃ d', runS (stepsF (fr + (sects 0 ls).length) (frS (ls.length + 1) b)) d = (d', 0) ∧ Kp d' fr mn (ls ++ [b]) ∧ d'.wa.length = 1 ∧ Outside fr mn d.no d'.no := addF h.free h.len h.cl h.b6 hb hr
/-- whatever of what waits is kept, all records stand there, or all but the last one, where that one waits. -/
theorem Kp.fail (h : Kp d fr mn ls) (kept : List Bool) : ∃ l0, (l0 = ls ∨ (d.wa ≠ [] ∧ ∃ b, ls = l0 ++ [b])) ∧ Torn (failK d.su d.wa kept (min d.wa.length kept.length)) fr mn (sects 0 l0) := by
  rcases h.w with ⟨h1, h2⟩ | ⟨l0, b, x, he, ht, hw, hn⟩
  · refine ⟨ls, .inl rfl, ?_⟩
    rw [h2, List.length_nil, failK_nil, h1]
    exact h.cl.torn
  · rw [hw]
    rcases failK_one d.su (fr + (sects 0 l0).length) x kept with hk | hk
    · refine ⟨l0, .inr ⟨by simp, b, he⟩, ?_⟩
      rw [List.length_singleton, hk]
      exact ht
    · refine ⟨ls, .inl rfl, ?_⟩
      rw [List.length_singleton, hk, ← hn]
      exact h.cl.torn
theorem Kp.failNone (h : Kp d fr mn (ls ++ [b])) (hw : d.wa.length = 1) : Torn (failK d.su d.wa [] (min d.wa.length 0)) fr mn (sects 0 ls) := by
  rcases h.w with ⟨_, h2⟩ | ⟨l0, b', x, he, ht, _, _⟩
  · rw [h2] at hw; cases hw
  · obtain ⟨rfl, rfl⟩ := snoc_inj he
    rw [Nat.min_zero]
    exact ht
theorem Kp.failAll (h : Kp d fr mn ls) (hw : d.wa.length = 1) : failK d.su d.wa [true] (min d.wa.length 1) = d.no := by
  rcases h.w with ⟨_, h2⟩ | ⟨l0, b', x, _, _, hw', hn⟩
  · rw [h2] at hw; cases hw
  · rw [hw', hn]
    rfl
theorem secs_room {ls : List (List UInt8)} {b : List UInt8} (hb : ∀ x ∈ ls, x.length ≤ 256) (h : b.length ≤ 256) (hl : 5 * ls.length + 5 ≤ mn) : (sects 0 ls).length + secs b.length ≤ mn := by
  have h1 := sects_le ls 0 hb
  have h2 := secs_5 h
  omega
end
end Go.Proofs.Ytdnioigcgggdbaa
