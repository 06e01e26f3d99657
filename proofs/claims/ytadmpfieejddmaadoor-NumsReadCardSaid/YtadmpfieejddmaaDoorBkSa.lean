/-
  append onto a full slice of the call's own: new memory, the old one stays.
-/
import Derived.Test.YtadmpfieejddmaaDoorBook8
set_option linter.unusedVariables false
set_option linter.unusedSimpArgs false
namespace Go.Proofs.YtadmpfieejddmaaDoor
open Go.RowKit

theorem run_append_full {P : Program} {w : World} {t ty e : TypeId} {z : Value} {size bytes : Nat} (ht : P.underlying t = some (.slice e)) (hinfo : (P.info? e).map (fun i => (i.zero, i.size, i.bytes)) = some (some z, size, bytes)) (hzs : z.cells.size = size) (hsz : 0 < size) (hb : bytes ≤ 1000000)
    {A : Option Addr} {q : Nat} {xs : List Value} (h : w.ownsRow 0 e size (.slice A q q) q xs) {A2 : Option Addr} {m : Nat} {ys : List Value} (hr : Rd w size A2 1 m ys) (h6 : q ≤ 1000000) :
    ∃ A' c' w', (Builtin.append_ #[t, t] ty #[.slice A q q, .slice A2 1 m]).run P w = .ok (.slice A' (q + 1) c') w' ∧ w'.ownsRow w.heap.size e size (.slice A' (q + 1) c') (q + 1) (xs ++ ys) ∧ Ext w w' := by
  obtain ⟨i, hi, hz, hsize, hby⟩ := info_parts hinfo
  have hzl : ∀ k, (Builtin.zeroCells z.cells k).toList.length = k * size := fun k => by rw [Array.length_toList, size_zeroCells, hzs]
  have hnew : ∀ (W : World) (o : Obj), (W.alloc o).heap[W.heap.size]? = some o := fun W o => World.alloc_heap_new W o
  have hadd : ∀ (b o j : Nat), (⟨b, o, none⟩ : Addr).add j = ⟨b, o + j, none⟩ := fun b o j => by unfold Addr.add; split <;> simp_all
  obtain ⟨b2, o2, rfl, hcq⟩ := hr.at_ (by decide)
  have hyl : ys.length = 1 * i.size := by rw [hsize]; exact hr.len
  have hnews : ∀ j u, ys[j]? = some u → w.cell? ((⟨b2, o2, none⟩ : Addr).add j) = some u := fun j u hj => by
    have hj2 := (List.getElem?_eq_some_iff.1 hj).1
    rw [hadd, hcq j (by rw [hyl, hsize] at hj2; exact hj2), hj]
  have hyl' : ys.length = size := by rw [hyl, hsize, Nat.one_mul]
  obtain ⟨hl, h2⟩ := h
  rcases h2 with ⟨hv, h0⟩ | ⟨g, cap, cur, hv, -, hg, hn, hc, hs, htk⟩
  · injection hv with h3 h4 h5
    subst h3 h4
    have hxs : xs = [] := List.eq_nil_of_length_eq_zero (by rw [hl, Nat.zero_mul])
    subst hxs
    have hrun := run_append_nil (P := P) (w := w) t ty e i z ht hi hz ⟨b2, o2, none⟩ 1 m ys hyl hnews (by decide) (by decide) (by rw [hby]; omega)
    have hge := grownCap_ge w 1 0 e
    have hle := grownCap_le_maxLen w 1 0 e (by unfold maxLen; omega)
    generalize grownCap w 1 0 e = g at *
    refine ⟨_, _, _, hrun, ⟨by rw [List.nil_append, hyl', Nat.zero_add, Nat.one_mul], .inr ⟨w.heap.size, g, ys.toArray ++ Builtin.zeroCells z.cells (g - 1), rfl, Nat.le_refl _, hnew w.drew _, hge, hle, ?_, ?_⟩⟩, (Ext.refl w).drew.alloc _⟩
    · rw [Array.size_append, size_zeroCells, hzs]
      simp only [List.size_toArray, hyl']
      obtain ⟨g', rfl⟩ : ∃ g', g = g' + 1 := ⟨g - 1, by omega⟩
      rw [Nat.add_sub_cancel, Nat.add_mul]; omega
    · simp only [Array.toList_append, List.nil_append, Nat.zero_add, Nat.one_mul]
      rw [List.take_append_of_le_length (by simp [hyl']), List.take_of_length_le (by simp [hyl'])]
  · injection hv with h3 h4 h5
    subst h3 h5
    have hxl : xs.length = q * size := hl
    have hnext := nextslicecap_le (need := q + 1) (old := q) (by omega)
    have hrun := run_append_grow (P := P) (w := w) t ty e i z ht hi hz ⟨g, 0, none⟩ q q xs (by rw [hxl, hsize]) (fun j u hj => by
      have hj2 := (List.getElem?_eq_some_iff.1 hj).1
      rw [hadd, cell_of_row w g (0 + j) _ e (0, 0) hg]
      rw [← htk, List.getElem?_take] at hj
      split at hj
      · simpa using hj
      · cases hj) ⟨b2, o2, none⟩ 1 m ys hyl hnews (by omega) (by omega) (by
      rw [hby]
      exact Nat.le_trans (Nat.mul_le_mul (Nat.le_trans hnext (show 2 * (q + 1) ≤ 2000002 by omega)) hb) (by decide))
    have hge := grownCap_ge w (q + 1) q e
    have hle := grownCap_le_maxLen w (q + 1) q e (by unfold maxLen; omega)
    generalize grownCap w (q + 1) q e = c' at *
    refine ⟨_, _, _, hrun, ⟨by rw [List.length_append, hxl, hyl', Nat.add_mul, Nat.one_mul], .inr ⟨w.heap.size, c', xs.toArray ++ ys.toArray ++ Builtin.zeroCells z.cells (c' - (q + 1)), rfl, Nat.le_refl _, hnew w.drew _, hge, hle, ?_, ?_⟩⟩, (Ext.refl w).drew.alloc _⟩
    · rw [Array.size_append, Array.size_append, size_zeroCells, hzs]
      simp only [List.size_toArray, hyl', hxl]
      obtain ⟨g', rfl⟩ : ∃ g', c' = g' + (q + 1) := ⟨c' - (q + 1), by omega⟩
      rw [Nat.add_sub_cancel, Nat.add_mul, Nat.add_mul]; omega
    · simp only [Array.toList_append]
      rw [List.take_append_of_le_length (by simp only [List.length_append, hxl, hyl']; rw [Nat.add_mul]; omega), List.take_of_length_le (by simp only [List.length_append, hxl, hyl']; rw [Nat.add_mul]; omega)]
section
variable {P : Program} {ops : Array Oper} {rest : List Oper} {a : Act} {w : World} {Q : Exit → Act → World → Prop} {L L1 : List Ent} {dst : Option Tmp} {x y s : Operand} {ty : TypeId} {pos : String} {after : Array Edge} {gd : Option (Nat × Bool)}
/-- one element more behind a full slice. -/
theorem wpl_appFull {t : TypeId} (H : Holds w L) (hw : Region.wanted ⟨dst, .call { callee := .builtin .append, args := #[s, x], argTypes := #[t, t] }, ty, pos, after, gd⟩ (yielded ops a.tmps) = true)
    {e : TypeId} {A A2 : Option Addr} {q m size bytes : Nat} {xs ys : List Value} {z : Value} (hm : ownE e size (.slice A q q) q xs ∈ L) (hs : a.eval s = .slice A q q) (hx : a.eval x = .slice A2 1 m) (ht : P.underlying t = some (.slice e))
    (hinfo : (P.info? e).map (fun i => (i.zero, i.size, i.bytes)) = some (some z, size, bytes)) (hzs : z.cells.size = size) (hsz : 0 < size) (hb : bytes ≤ 1000000) (hr : Gives L fun w => Rd w size A2 1 m ys) (h6 : q ≤ 1000000)
    (h : ∀ A' c' w', Holds w' (ownE e size (.slice A' (q + 1) c') (q + 1) (xs ++ ys) :: L) → wpList P ops Q rest (a.put dst (.slice A' (q + 1) c')) w') :
    wpList P ops Q (⟨dst, .call { callee := .builtin .append, args := #[s, x], argTypes := #[t, t] }, ty, pos, after, gd⟩ :: rest) a w := by
  obtain ⟨A', c', w', hrun, h2, h3⟩ := run_append_full (P := P) (ty := ty) ht hinfo hzs hsz hb (H.all _ hm) (hr w H) h6
  refine wpl_run hw (v := .slice A' (q + 1) c') (w' := w') ?_ (h _ _ _ (H.new_own h3 h2))
  unfold execOp
  simp only [resolve, invoke, builtin, Sem.run_bind, Sem.run_pure, Result.andThen_ok, List.map_toArray, List.map_cons, List.map_nil, hs, hx, hrun]
end
theorem wpl_slice1 {P : Program} {ops : Array Oper} {rest : List Oper} {a : Act} {w : World} {Q : Exit → Act → World → Prop} {L : List Ent} {dst : Option Tmp} {x : Operand} {ty : TypeId} {pos : String} {after : Array Edge} {gd : Option (Nat × Bool)} {t e : TypeId} {z : Value} {size bytes : Nat} {vs : List Value} (H : Holds w L)
    (hw : Region.wanted ⟨dst, .buildSlice t 1 #[(0, x)], ty, pos, after, gd⟩ (yielded ops a.tmps) = true) (hx : (a.eval x).cells = vs.toArray) (ht : P.underlying t = some (.slice e)) (hinfo : (P.info? e).map (fun i => (i.zero, i.size, i.bytes)) = some (some z, size, bytes))
    (hzs : z.cells.size = size) (hl : vs.length = size) (h0 : 0 < size) (h24 : size ≤ 16777216) (h : ∀ b w', Holds w' (blk b vs e :: L) → wpList P ops Q rest (a.put dst (.slice (some ⟨b, 0, none⟩) 1 1)) w') :
    wpList P ops Q (⟨dst, .buildSlice t 1 #[(0, x)], ty, pos, after, gd⟩ :: rest) a w := by
  refine wpl_run hw (v := .slice (some ⟨w.heap.size, 0, none⟩) 1 1) (w' := w.alloc (.cells vs.toArray e)) ?_ (h _ _ (H.alloc vs e))
  have hr := run_slice1 (P := P) (w := w) hx ht hinfo hzs hl h0 h24
  unfold execOp
  simp only [List.map_toArray, List.map_cons, List.map_nil, Sem.run_bind, hr, Result.andThen_ok, Sem.run_pure]
end Go.Proofs.YtadmpfieejddmaaDoor
