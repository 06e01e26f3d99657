/-
  Arrays of integers held against one another.
-/
import Derived.Test.YtnpcpmiomimphaaDoorLib
import Derived.ChangeKeysEq
namespace Go.Proofs.YtnpcpmiomimphaaDoor
open Go.RowKit

section
variable {P : Program} (w : World) {q : IntKind}
theorem part_int {e : TypeId} (he : P.underlying e = some (.int q)) (l : List Int) (i : Nat) (hi : i < l.length) : (part e (l.map (Value.int q)).toArray i).run P w = .ok (.int q l[i]) w := by
  have hp : P.plainKey e = true := by simp [Program.plainKey, he]
  refine run_part_plain w hp ?_
  simp [List.getElem?_eq_getElem hi]
theorem eqItems_ints {e : TypeId} (he : P.underlying e = some (.int q)) (d : Nat) (a b : List Int) (hab : a.length = b.length) : ∀ (m s : Nat), s + m = a.length →
    (Op.eqItems (d + 1) e 1 (a.map (Value.int q)).toArray (b.map (Value.int q)).toArray (List.range' s m)).run P w = .ok (decide (a.drop s = b.drop s)) w
  | 0, s, h => by
    rw [List.drop_of_length_le (show a.length ≤ s by omega), List.drop_of_length_le (show b.length ≤ s by omega)]
    simp [Op.eqItems]
  | m + 1, s, h => by
    have h1 : s < a.length := by omega
    have h2 : s < b.length := by omega
    have ih := eqItems_ints he d a b hab m (s + 1) (by omega)
    simp only [List.range'_succ, Op.eqItems, Sem.run_bind, Nat.mul_one, part_int w he a s h1, part_int w he b s h2, Result.andThen_ok]
    rw [run_equalIn_int w d e q q _ _ he]
    simp only [Result.andThen_ok]
    rw [List.drop_eq_getElem_cons h1, List.drop_eq_getElem_cons h2]
    by_cases hx : a[s] = b[s]
    · rw [hx]
      simp only [BEq.rfl, Bool.not_true, Bool.false_eq_true, ↓reduceIte, ih]
      have e2 : (b[s] :: List.drop (s + 1) a = b[s] :: List.drop (s + 1) b) ↔ (List.drop (s + 1) a = List.drop (s + 1) b) := by
        rw [List.cons.injEq]; exact ⟨fun h => h.2, fun h => ⟨rfl, h⟩⟩
      rw [decide_eq_decide.2 e2]
    · have : (a[s] == b[s]) = false := by rw [beq_eq_false_iff_ne]; exact hx
      rw [this, decide_eq_false (p := a[s] :: _ = _) (fun h => hx (List.cons.inj h).1)]
      simp
theorem run_equalIn_ints {t e : TypeId} {n : Nat} {i : TypeInfo} (d : Nat) (ht : P.underlying t = some (.array n e)) (he : P.underlying e = some (.int q)) (hi : P.info? e = some i) (hc : P.cellsOf e = 1) (a b : List Int) (ha : a.length = n) (hb : b.length = n) :
    (Op.equalIn (d + 2) t (.agg (a.map (Value.int q)).toArray) (.agg (b.map (Value.int q)).toArray)).run P w = .ok (decide (a = b)) w := by
  rw [run_equalIn_array w (d + 1) _ _ ht hi, hc, List.range_eq_range', eqItems_ints w he d a b (by omega) n 0 (by omega)]
  simp
theorem run_neq_ints {t e : TypeId} {n : Nat} {i : TypeInfo} (ht : P.underlying t = some (.array n e)) (he : P.underlying e = some (.int q)) (hi : P.info? e = some i) (hc : P.cellsOf e = 1) (a b : List Int) (ha : a.length = n) (hb : b.length = n) :
    (binOp .neq t (.agg (a.map (Value.int q)).toArray) (.agg (b.map (Value.int q)).toArray)).run P w = .ok (.bool (decide (a ≠ b))) w := by
  rw [run_neq_struct, run_equalIn_ints w 9998 ht he hi hc a b ha hb]; simp
theorem run_eql_ints {t e : TypeId} {n : Nat} {i : TypeInfo} (ht : P.underlying t = some (.array n e)) (he : P.underlying e = some (.int q)) (hi : P.info? e = some i) (hc : P.cellsOf e = 1) (a b : List Int) (ha : a.length = n) (hb : b.length = n) :
    (binOp .eql t (.agg (a.map (Value.int q)).toArray) (.agg (b.map (Value.int q)).toArray)).run P w = .ok (.bool (decide (a = b))) w := by
  rw [run_eql_struct, run_equalIn_ints w 9998 ht he hi hc a b ha hb]; simp
end
end Go.Proofs.YtnpcpmiomimphaaDoor
