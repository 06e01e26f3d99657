/-
  append(s, x...) where s is any slice without spare room (as []byte("..")): the result lies in new memory.
-/
import Derived.Test.YtdnioigcgggdbaaBlkF
import Derived.Laws.Append
set_option linter.unusedVariables false
set_option linter.unusedSimpArgs false
namespace Go.Proofs.Ytdnioigcgggdbaa
open Go.RowKit

theorem blk_to_own {w : World} {L : List Ent} {b n c : Nat} {cs : List Value} {e : TypeId} (H : Holds w (blk b cs e :: L)) (hc : cs.length = c) (hn : n ≤ c) (hm : c ≤ maxLen) : Holds w (ownE e 1 (.slice (some ⟨b, 0, none⟩) n c) n (cs.take n) :: L) :=
  H.set rfl (.refl _ w) ⟨by rw [List.length_take, hc]; omega, .inr ⟨b, c, _, rfl, Nat.zero_le _, H.head, hn, hm, by simpa using hc, by simp⟩⟩ fun x hx => .inl (by
    have : some b = some x := hx
    injection this with h; exact h.symm)
section
variable {P : Program} {ops : Array Oper} {rest : List Oper} {a : Act} {w : World} {Q : Exit → Act → World → Prop} {L : List Ent} {dst : Option Tmp} {x s : Operand} {ty : TypeId} {pos : String} {after : Array Edge} {gd : Option (Nat × Bool)}
theorem wpl_appF {t : TypeId} (H : Holds w L) (hw : Region.wanted ⟨dst, .call { callee := .builtin .append, args := #[s, x], argTypes := #[t, t] }, ty, pos, after, gd⟩ (yielded ops a.tmps) = true)
    {b n m c : Nat} {A2 : Option Addr} (hs : a.eval s = .slice (some ⟨b, 0, none⟩) n n) (hx : a.eval x = .slice A2 m c) {e : TypeId} {z : Value} {bytes : Nat} (ht : P.underlying t = some (.slice e)) (hinfo : (P.info? e).map (fun i => (i.zero, i.size, i.bytes)) = some (some z, 1, bytes)) (hz1 : z.cells.size = 1)
    {xs ys : List Value} (hold : Gives L fun w => Rd w 1 (some ⟨b, 0, none⟩) n n xs) (hr : Gives L fun w => Rd w 1 A2 m c ys) (hm : 0 < m) (hn : 0 < n) (h6 : n + m ≤ 1000000) (hb : bytes ≤ 1000000)
    (h : ∀ b' c' w', n + m ≤ c' → Holds w' (ownE e 1 (.slice (some ⟨b', 0, none⟩) (n + m) c') (n + m) (xs ++ ys) :: L) → wpList P ops Q rest (a.put dst (.slice (some ⟨b', 0, none⟩) (n + m) c')) w') :
    wpList P ops Q (⟨dst, .call { callee := .builtin .append, args := #[s, x], argTypes := #[t, t] }, ty, pos, after, gd⟩ :: rest) a w := by
  obtain ⟨i, hi, hz, hsize, hby⟩ := info_parts hinfo
  have r1 := hold w H
  have r2 := hr w H
  obtain ⟨b2, o2, e2, hc2⟩ := r2.at_ hm
  subst e2
  obtain ⟨b1, o1, e1, hc1⟩ := r1.at_ hn
  injection e1 with e1
  injection e1 with e1 e3
  subst e1 e3
  have hl1 := r1.len
  have hl2 := r2.len
  have hadd : ∀ (b o j : Nat), (⟨b, o, none⟩ : Addr).add j = ⟨b, o + j, none⟩ := fun b o j => by unfold Addr.add; split <;> simp_all
  have hnext := nextslicecap_le (need := n + m) (old := n) (by omega)
  have hrun := run_append_grow (P := P) (w := w) t ty e i z ht hi hz ⟨b, 0, none⟩ n n xs (by rw [hl1, hsize]) (fun j v hj => by
      rw [hadd, hc1 j (by rw [← hl1]; exact (List.getElem?_eq_some_iff.1 hj).1), hj]) ⟨b2, o2, none⟩ m c ys (by rw [hl2, hsize]) (fun j v hj => by
      rw [hadd, hc2 j (by rw [← hl2]; exact (List.getElem?_eq_some_iff.1 hj).1), hj]) (by omega) (by omega) (by
      rw [hby]
      exact Nat.le_trans (Nat.mul_le_mul (Nat.le_trans hnext (show 2 * (n + m) ≤ 2000000 by omega)) hb) (by decide))
  have hge := grownCap_ge w (n + m) n e
  have hle := grownCap_le_maxLen w (n + m) n e (by unfold maxLen; omega)
  generalize grownCap w (n + m) n e = g at *
  have e0 : xs.toArray ++ ys.toArray ++ Builtin.zeroCells z.cells (g - (n + m)) = (xs ++ ys ++ (Builtin.zeroCells z.cells (g - (n + m))).toList).toArray := by
    apply Array.ext'
    simp
  rw [e0] at hrun
  have hlen : (xs ++ ys ++ (Builtin.zeroCells z.cells (g - (n + m))).toList).length = g := by
    rw [List.length_append, List.length_append, hl1, hl2, Array.length_toList, size_zeroCells, hz1]
    omega
  have H2 := blk_to_own (n := n + m) (H.drew.alloc (xs ++ ys ++ (Builtin.zeroCells z.cells (g - (n + m))).toList) e) hlen hge hle
  rw [List.take_append_of_le_length (by rw [List.length_append, hl1, hl2]; omega), List.take_of_length_le (by rw [List.length_append, hl1, hl2]; omega)] at H2
  refine wpl_run hw (v := .slice (some ⟨w.heap.size, 0, none⟩) (n + m) g) (w' := w.drew.alloc (.cells (xs ++ ys ++ (Builtin.zeroCells z.cells (g - (n + m))).toList).toArray e)) ?_ (h _ _ _ hge H2)
  unfold execOp
  simp only [resolve, invoke, builtin, Sem.run_bind, Sem.run_pure, Result.andThen_ok, List.map_toArray, List.map_cons, List.map_nil, hs, hx, hrun]
end
end Go.Proofs.Ytdnioigcgggdbaa
