/-
  Slices of the call's own whose cap may be less than their block's cells (clipped ones), of one cell an element; what a slice and what was appended behind it hold. Nothing of the program stands here.
-/
import Derived.Test.YtdnioigcgggdbaaAppF
import Derived.Test.YtdnioigcgggdbaaRow
import Derived.RangeFuncRecord
set_option linter.unusedVariables false
set_option linter.unusedSimpArgs false
namespace Go.Proofs.Ytdnioigcgggdbaa
open Go.RowKit

def rowW (w : World) (e : TypeId) (A : Option Addr) (n c : Nat) (xs : List Value) : Prop :=
  xs.length = n ∧ ((A = none ∧ n = 0 ∧ c = 0) ∨ ∃ (b : Nat) (arr : List Value), A = some ⟨b, 0, none⟩ ∧ w.heap[b]? = some (.cells arr.toArray e (0, 0)) ∧ n ≤ c ∧ c ≤ arr.length ∧ c ≤ maxLen ∧ arr.take n = xs)
def blockOf (A : Option Addr) : Option Nat := A.map (·.block)
def rowE (e : TypeId) (A : Option Addr) (n c : Nat) (xs : List Value) : Ent :=
  ⟨true, fun b => blockOf A = some b, fun w => rowW w e A n c xs,
   fun w w' hk h => by
    refine ⟨h.1, ?_⟩
    rcases h.2 with h2 | ⟨b, arr, h3, h4, r⟩
    · exact .inl h2
    · exact .inr ⟨b, arr, h3, (hk.block b (by rw [h3]; rfl) (Array.getElem?_eq_some_iff.1 h4).1).trans h4, r⟩,
   fun w h b hb => by
    rcases h.2 with ⟨h2, -⟩ | ⟨b', arr, h3, h4, r⟩
    · rw [h2] at hb; cases hb
    · rw [h3] at hb
      injection hb with hb
      subst hb
      exact (Array.getElem?_eq_some_iff.1 h4).1⟩
theorem row_of_own {w : World} {e : TypeId} {A : Option Addr} {n c : Nat} {xs : List Value} (h : w.ownsRow 0 e 1 (.slice A n c) n xs) : rowW w e A n c xs := by
  refine ⟨by have := h.1; omega, ?_⟩
  rcases h.2 with ⟨hv, h0⟩ | ⟨g, cap, cur, hv, -, hg, hn, hc, hs, ht⟩
  · injection hv with h1 h2 h3
    exact .inl ⟨h1, h2, h3⟩
  · injection hv with h1 h2 h3
    subst h3
    exact .inr ⟨g, cur.toList, h1, by simpa using hg, hn, by simp; omega, hc, by simpa using ht⟩
theorem Holds.to_row {w : World} {L : List Ent} {e : TypeId} {A : Option Addr} {n c : Nat} {xs : List Value} (H : Holds w (ownE e 1 (.slice A n c) n xs :: L)) : Holds w (rowE e A n c xs :: L) :=
  H.set rfl (.refl _ w) (row_of_own H.head) fun b hb => .inl (by
    have : blockOf A = some b := hb
    show (Value.slice A n c).ownBlock = some b
    cases A with
    | none => cases this
    | some a => exact this)
theorem Holds.clip {w : World} {L : List Ent} {e : TypeId} {A : Option Addr} {n c : Nat} {xs : List Value} (H : Holds w (rowE e A n c xs :: L)) : Holds w (rowE e A n n xs :: L) :=
  H.set rfl (.refl _ w) (by
    obtain ⟨h1, h2⟩ := H.head
    refine ⟨h1, ?_⟩
    rcases h2 with ⟨h3, h4, h5⟩ | ⟨b, arr, h3, h4, h5, h6, h7, h8⟩
    · exact .inl ⟨h3, h4, h4⟩
    · exact .inr ⟨b, arr, h3, h4, Nat.le_refl _, by omega, by omega, h8⟩) fun b hb => .inl hb
theorem row_rd {w : World} {e : TypeId} {A : Option Addr} {n c : Nat} {xs : List Value} (h : rowW w e A n c xs) : Rd w 1 A n c xs := by
  obtain ⟨h1, h2⟩ := h
  rcases h2 with ⟨h3, h4, h5⟩ | ⟨b, arr, h3, h4, h5, h6, h7, h8⟩
  · subst h3 h4 h5
    exact ⟨Nat.le_refl _, by simp [maxLen], by omega, fun _ => rfl, fun h => absurd h (by decide)⟩
  · subst h3
    refine ⟨h5, h7, by omega, (fun h => by cases h), fun _ => ⟨b, 0, rfl, fun j hj => ?_⟩⟩
    rw [cell_of_row w b (0 + j) _ e (0, 0) h4, ← h8]
    simp only [Nat.zero_add, List.getElem?_toArray]
    rw [List.getElem?_take, if_pos (by omega)]
theorem gives_row {L : List Ent} {e : TypeId} {A : Option Addr} {n c : Nat} {xs : List Value} (h : rowE e A n c xs ∈ L) : Gives L fun w => Rd w 1 A n c xs := fun w H => row_rd (H.all _ h)
theorem row_some {w : World} {e : TypeId} {A : Option Addr} {n c : Nat} {xs : List Value} (h : rowW w e A n c xs) (hn : 0 < n) : ∃ b, A = some ⟨b, 0, none⟩ := by
  rcases h.2 with ⟨-, h4, -⟩ | ⟨b, arr, h3, -⟩
  · omega
  · exact ⟨b, h3⟩
/-- one cell is written. -/
theorem Holds.row_set {w : World} {L : List Ent} {e : TypeId} {b n c k : Nat} {xs : List Value} {v : Value} (H : Holds w (rowE e (some ⟨b, 0, none⟩) n c xs :: L)) (hk : k < n) :
    w.there b k 1 ∧ Holds (w.setCells b k [v]) (rowE e (some ⟨b, 0, none⟩) n c (xs.set k v) :: L) := by
  obtain ⟨h1, h2⟩ := H.head
  rcases h2 with ⟨h3, -⟩ | ⟨b', arr, h3, h4, h5, h6, h7, h8⟩
  · cases h3
  · injection h3 with h3
    injection h3 with h3
    subst h3
    refine ⟨fun j hj => ⟨?_, frozen_of_row w b (k + j) _ e h4⟩, ?_⟩
    · rw [cell_of_row w b (k + j) _ e (0, 0) h4]
      simp; omega
    · have hb2 := blk_setCells [v] k arr w h4
      have hk0 := kept_setCells (b := b) [v] k w (.refl _ w)
      refine H.set rfl ⟨hk0.os, hk0.tape, hk0.output, hk0.size, fun x hx hlt => hk0.block x (fun e => hx (by rw [e]; rfl)) hlt⟩ ⟨by rw [List.length_set]; exact h1, .inr ⟨b, setL arr k [v], rfl, hb2, h5, by rw [setL_len]; exact h6, h7, ?_⟩⟩ fun x hx => .inl hx
      have es : setL arr k [v] = arr.set k v := by simp [setL]
      rw [es, List.take_set, h8]
/-- one element more behind such a slice: in place where there is room, else in new memory. -/
theorem run_row_app {P : Program} {w : World} {t ty e : TypeId} {z : Value} {bytes : Nat} (ht : P.underlying t = some (.slice e)) (hinfo : (P.info? e).map (fun i => (i.zero, i.size, i.bytes)) = some (some z, 1, bytes)) (hz1 : z.cells.size = 1) (hb : bytes ≤ 1000000)
    {A : Option Addr} {n c : Nat} {xs : List Value} (h : rowW w e A n c xs) {q m : Nat} {v : Value} (hr : Rd w 1 (some ⟨q, 0, none⟩) 1 m [v]) (h1 : v.oneCell' = true) (h6 : n ≤ 1000000) :
    ∃ A' c' w', (Builtin.append_ #[t, t] ty #[.slice A n c, .slice (some ⟨q, 0, none⟩) 1 m]).run P w = .ok (.slice A' (n + 1) c') w' ∧ rowW w' e A' (n + 1) c' (xs ++ [v]) ∧
      ((A' = A ∧ c' = c ∧ (∃ b, A = some ⟨b, 0, none⟩ ∧ w.grownBy w' (some b)) ∧ n + 1 ≤ c) ∨ (blockOf A' = some w.heap.size ∧ Ext w w')) := by
  obtain ⟨i, hi, hz, hsize, hby⟩ := info_parts hinfo
  have hzl : ∀ k, (Builtin.zeroCells z.cells k).toList.length = k := fun k => by rw [Array.length_toList, size_zeroCells, hz1]; omega
  have hnew : ∀ (W : World) (o : Obj), (W.alloc o).heap[W.heap.size]? = some o := fun W o => World.alloc_heap_new W o
  have hadd : ∀ (b o j : Nat), (⟨b, o, none⟩ : Addr).add j = ⟨b, o + j, none⟩ := fun b o j => by unfold Addr.add; split <;> simp_all
  obtain ⟨q', o', eq, hcq⟩ := hr.at_ (by decide)
  injection eq with eq
  injection eq with eq eo
  subst eq eo
  have hnews : ∀ j u, [v][j]? = some u → w.cell? ((⟨q, 0, none⟩ : Addr).add j) = some u := fun j u hj => by
    rw [hadd, hcq j (by have := (List.getElem?_eq_some_iff.1 hj).1; simpa using this), hj]
  obtain ⟨hl, h2⟩ := h
  rcases h2 with ⟨h3, h4, h5⟩ | ⟨b, arr, h3, h4, h5, h6', h7, h8⟩
  · subst h3 h4 h5
    have hxs : xs = [] := List.eq_nil_of_length_eq_zero hl
    subst hxs
    have hrun := run_append_nil (P := P) (w := w) t ty e i z ht hi hz ⟨q, 0, none⟩ 1 m [v] (by rw [hsize]; rfl) hnews (by decide) (by decide) (by rw [hby]; omega)
    have hge := grownCap_ge w 1 0 e
    have hle := grownCap_le_maxLen w 1 0 e (by unfold maxLen; omega)
    generalize grownCap w 1 0 e = g at *
    refine ⟨_, _, _, hrun, ⟨rfl, .inr ⟨w.heap.size, [v] ++ (Builtin.zeroCells z.cells (g - 1)).toList, rfl, ?_, hge, ?_, hle, rfl⟩⟩, .inr ⟨rfl, (Ext.refl w).drew.alloc _⟩⟩
    · have := hnew w.drew (.cells ([v].toArray ++ Builtin.zeroCells z.cells (g - 1)) e)
      rw [show w.heap.size = w.drew.heap.size from rfl, this]
      congr 2
      apply Array.ext'
      simp
    · rw [List.length_append, hzl]
      simp; omega
  · subst h3
    by_cases hroom : n + 1 ≤ c
    · have hrun := run_append_room (P := P) (w := w) t ty e i ht hi b n c arr.toArray h4 ⟨q, 0, none⟩ 1 m [v] (by rw [hsize]; rfl) hnews (by simpa using h1) hroom (by rw [hsize]; simp; omega)
      have hb2 : (w.setRow b (arr.toArray.toList.take (n * i.size) ++ [v] ++ arr.toArray.toList.drop (n * i.size + [v].length)).toArray).heap[b]? = some (.cells (arr.toArray.toList.take (n * i.size) ++ [v] ++ arr.toArray.toList.drop (n * i.size + [v].length)).toArray e (0, 0)) := by
        simp [World.setRow, Array.getElem?_modify, h4]
      rw [hsize, Nat.mul_one] at hrun hb2
      refine ⟨_, _, _, hrun, ⟨by rw [List.length_append, hl]; rfl, .inr ⟨b, _, rfl, hb2, hroom, ?_, h7, ?_⟩⟩, .inl ⟨rfl, rfl, ⟨b, rfl, rfl, rfl, rfl, by simp [World.setRow], fun k hk hne => ?_⟩, hroom⟩⟩
      · simp only [List.length_append, List.length_take, List.length_drop, List.length_cons, List.length_nil]
        omega
      · rw [List.take_append_of_le_length (by simp; omega), List.take_of_length_le (by simp; omega), h8]
      · have hne' : ¬ b = k := fun e => hne (by rw [e])
        simp [World.setRow, Array.getElem?_modify, hne']
    · have hnext := nextslicecap_le (need := n + 1) (old := c) (by omega)
      have hrun := run_append_grow (P := P) (w := w) t ty e i z ht hi hz ⟨b, 0, none⟩ n c xs (by rw [hl, hsize, Nat.mul_one]) (fun j u hj => by
        have hj2 := (List.getElem?_eq_some_iff.1 hj).1
        rw [hadd, cell_of_row w b (0 + j) _ e (0, 0) h4]
        rw [← h8, List.getElem?_take] at hj
        split at hj
        · simpa using hj
        · cases hj) ⟨q, 0, none⟩ 1 m [v] (by rw [hsize]; rfl) hnews (by omega) (by omega) (by
        rw [hby]
        exact Nat.le_trans (Nat.mul_le_mul (Nat.le_trans hnext (show 2 * (n + 1) ≤ 2000002 by omega)) hb) (by decide))
      have hge := grownCap_ge w (n + 1) c e
      have hle := grownCap_le_maxLen w (n + 1) c e (by unfold maxLen; omega)
      generalize grownCap w (n + 1) c e = g at *
      refine ⟨_, _, _, hrun, ⟨by rw [List.length_append, hl]; rfl, .inr ⟨w.heap.size, xs ++ [v] ++ (Builtin.zeroCells z.cells (g - (n + 1))).toList, rfl, ?_, hge, ?_, hle, ?_⟩⟩, .inr ⟨rfl, (Ext.refl w).drew.alloc _⟩⟩
      · have := hnew w.drew (.cells (xs.toArray ++ [v].toArray ++ Builtin.zeroCells z.cells (g - (n + 1))) e)
        rw [show w.heap.size = w.drew.heap.size from rfl, this]
        congr 2
        apply Array.ext'
        simp
      · rw [List.length_append, List.length_append, hzl, hl]
        simp; omega
      · rw [List.take_append_of_le_length (by rw [List.length_append, hl]; simp), List.take_of_length_le (by rw [List.length_append, hl]; simp)]
end Go.Proofs.Ytdnioigcgggdbaa
