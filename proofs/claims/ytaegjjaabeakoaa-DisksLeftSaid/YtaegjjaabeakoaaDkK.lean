/-
  disks: append of a row of noughts; what is left of a disk, in plain terms.
-/
import Derived.Test.YtaegjjaabeakoaaDkH
import Derived.Lib.AppendZerosOnto
set_option linter.unusedVariables false
set_option linter.unusedSimpArgs false
namespace Go.Proofs.Ytaegjjaabeakoaa
open Go.RowKit

section
variable {P : Program} {ops : Array Oper} {rest : List Oper} {a : Act} {w : World} {Q : Exit → Act → World → Prop} {L : List Ent}
theorem zeroCells_list (z : Value) (n : Nat) : (Builtin.zeroCells #[z] n).toList = List.replicate n z := by
  have h := size_zeroCells #[z] n
  apply List.ext_getElem
  · simpa using h
  · intro i h1 h2
    simp only [Builtin.zeroCells]
    simp [Nat.mod_one]
/-- append(s, make([]T, m)...) where s is all that it has room for. -/
theorem wpl_appZ {dst : Option Tmp} {s x : Operand} {t tn : TypeId} {ty : TypeId} {pos : String} {after : Array Edge} {gd : Option (Nat × Bool)} (H : Holds w L)
    (hw : Region.wanted ⟨dst, .call { callee := .builtin .append, args := #[s, x], argTypes := #[t, tn] }, ty, pos, after, gd⟩ (yielded ops a.tmps) = true)
    {b n : Nat} (hs : a.eval s = .slice (some ⟨b, 0, none⟩) n n) {N : Int} (m : Nat) (hx : a.eval x = .int .i64 N) (hN : N = (m : Int)) {e : TypeId} {xs : List Value} {L' : List Ent} (hm : Pull (ownE e 1 (.slice (some ⟨b, 0, none⟩) n n) n xs) L L')
    {z : Value} {bytes : Nat} {kn : IntKind} (ht : P.underlying t = some (.slice e)) (htn : P.underlying tn = some (.int kn)) (hinfo : (P.info? e).map (fun i => (i.zero, i.size, i.bytes)) = some (some z, 1, bytes))
    (hz1 : z.cells = #[z]) (h63 : n + m ≤ maxLen) (hbytes : (n + m) * bytes ≤ 140737488355328)
    (h : ∀ A' cap' w', Holds w' (ownE e 1 (.slice A' (n + m) cap') (n + m) (xs ++ List.replicate m z) :: L') → wpList P ops Q rest (a.put dst (.slice A' (n + m) cap')) w') :
    wpList P ops Q (⟨dst, .call { callee := .builtin .append, args := #[s, x], argTypes := #[t, tn] }, ty, pos, after, gd⟩ :: rest) a w := by
  subst hN
  obtain ⟨i, hi, hz, hsize, hby⟩ := info_parts hinfo
  have ho : w.ownsRow 0 e 1 (.slice (some ⟨b, 0, none⟩) n n) n xs := H.all _ hm.mem
  have hxl : xs.length = n := by have := ho.1; omega
  have hsmall : n + m ≤ 9223372036854775807 := by simp only [maxLen] at h63; omega
  suffices hrun : ∃ A' cap' w', (Builtin.append_ #[t, tn] ty #[.slice (some ⟨b, 0, none⟩) n n, .int .i64 m]).run P w = .ok (.slice A' (n + m) cap') w' ∧ Holds w' (ownE e 1 (.slice A' (n + m) cap') (n + m) (xs ++ List.replicate m z) :: L') by
    obtain ⟨A', cap', w', hr, hH⟩ := hrun
    refine wpList_step fun K hK => ?_
    rw [if_pos hw]
    unfold Oper.wp execOp
    simp only [resolve, invoke, builtin, Sem.run_bind, Sem.run_pure, Result.andThen_ok, List.map_toArray, List.map_cons, List.map_nil, hs, hx, hr]
    exact hK _ _ (h A' cap' w' hH)
  rcases Nat.eq_zero_or_pos m with rfl | h0
  · refine ⟨some ⟨b, 0, none⟩, n, w, ?_, by simpa using H.pull hm⟩
    simp [Builtin.append_, run_underlying ht, run_underlying htn, sizeOf, typeInfo, hi, asInt, asIntOf, storeCells, IntKind.wrap_i64]
  · have holds : ∀ j u, xs[j]? = some u → w.drew.cell? ((⟨b, 0, none⟩ : Addr).add j) = some u := ho.cells (g := b) rfl
    have hold := run_firstCells_some (P := P) w.drew i.size n ⟨b, 0, none⟩ n n xs (by rw [hsize, hxl, Nat.mul_one]) holds
    have hfit := growslice_fits (show n < n + m by omega) (show (n + m) * i.bytes ≤ 140737488355328 by rw [hby]; exact hbytes)
    have hr := Go.Lib.run_append_grow_zeros (P := P) w t tn ty e i z .i64 kn ht htn hi hz (some ⟨b, 0, none⟩) n n xs hold m h0 (by omega) (by omega) (by omega) (by rw [hby]; have : m * bytes ≤ (n + m) * bytes := Nat.mul_le_mul_right _ (by omega); omega) hfit
    refine ⟨_, _, _, hr, ?_⟩
    have hge := grownCap_ge w (n + m) n e
    have hcm : grownCap w (n + m) n e ≤ maxLen := grownCap_le_maxLen w (n + m) n e h63
    refine H.grown hm (base := 0) ⟨by rw [List.length_append, List.length_replicate]; omega, .inr ⟨w.heap.size, _, _, rfl, Nat.zero_le _, heap_alloc_new w.drew _, hge, hcm, ?_, ?_⟩⟩ ⟨rfl, rfl, rfl, by simp, fun k hk _ => heap_alloc_old w.drew _ hk⟩ (.inr rfl)
    · simp only [Array.size_append, List.size_toArray, size_zeroCells, hz1, hxl]
      simp
      omega
    · simp only [Array.toList_append, hz1, zeroCells_list, List.append_assoc]
      rw [← List.append_assoc, List.take_left' (by rw [List.length_append, List.length_replicate]; omega)]
end
/-! ### what is left, in plain terms -/
def entW (x : UInt8 × List UInt8) : Nat × List UInt8 := (x.1.toNat % 5, padS (x.2.take 64))
def applyW (su : List (List UInt8)) (wa : List (Nat × List UInt8)) : List (List UInt8) := wa.foldl (fun l x => l.set x.1 x.2) su
def z5 : List (List UInt8) := List.replicate 5 zsec
theorem applyW_append (su wa wb) : applyW su (wa ++ wb) = applyW (applyW su wa) wb := List.foldl_append
theorem applyW_len (su) : ∀ wa, (applyW su wa).length = su.length
  | [] => rfl
  | x :: wa => by unfold applyW; rw [List.foldl_cons]; exact (applyW_len _ wa).trans (List.length_set ..)
theorem failK_true {su : List (List UInt8)} {wa : List (Nat × List UInt8)} {kept : List Bool} : ∀ m, m ≤ wa.length → (∀ i, i < m → kept[i]? = some true) → failK su wa kept m = applyW su (wa.take m)
  | 0, _, _ => rfl
  | m + 1, hm, hk => by
    obtain ⟨x, hx⟩ : ∃ x, wa[m]? = some x := ⟨_, List.getElem?_eq_getElem (by omega)⟩
    rw [failK, hx, hk m (by omega), List.take_add_one, hx, applyW_append, failK_true m (by omega) fun i hi => hk i (by omega)]
    rfl
theorem failK_stop {su : List (List UInt8)} {wa : List (Nat × List UInt8)} {kept : List Bool} {k : Nat} (hk : ∀ i, k ≤ i → kept[i]? ≠ some true) : ∀ m, failK su wa kept m = failK su wa kept (min m k)
  | 0 => by rw [Nat.zero_min]
  | m + 1 => by
    rcases Nat.lt_or_ge m k with h | h
    · rw [Nat.min_eq_left (by omega)]
    · rw [Nat.min_eq_right (by omega), failK]
      have e := failK_stop (su := su) (wa := wa) hk m
      rw [Nat.min_eq_right h] at e
      have := hk m h
      split
      · rename_i x _ h2; exact absurd h2 this
      · exact e
theorem written_no (ws : List (UInt8 × List UInt8)) (S : Int) : ∀ j, (writtenD ws S j).no = applyW z5 ((ws.take j).map entW)
  | 0 => rfl
  | j + 1 => by
    have h := written_no ws S j
    rw [writtenD]
    cases hx : ws[j]? with
    | none => rw [List.take_add_one, hx, h]; simp
    | some x =>
      simp only
      rw [List.take_add_one, hx, List.map_append, applyW_append, ← h]
      split <;> rfl
theorem written_sw (ws : List (UInt8 × List UInt8)) (s : Nat) : ∀ j, j ≤ ws.length → (writtenD ws (s : Int) j).su = (if s < j then applyW z5 ((ws.take s).map entW) else z5) ∧ (writtenD ws (s : Int) j).wa = (if s < j then ((ws.take j).drop s).map entW else (ws.take j).map entW)
  | 0, _ => by rw [if_neg (by omega), if_neg (by omega)]; exact ⟨rfl, rfl⟩
  | j + 1, hj => by
    obtain ⟨h1, h2⟩ := written_sw ws s j (by omega)
    have hno := written_no ws (s : Int) j
    obtain ⟨x, hx⟩ : ∃ x, ws[j]? = some x := ⟨_, List.getElem?_eq_getElem (by omega)⟩
    have hl : (ws.take j).length = j := by rw [List.length_take]; omega
    rw [writtenD, hx]
    simp only
    rw [List.take_add_one, hx, Option.toList_some]
    rcases Nat.lt_trichotomy s j with h | h | h
    · rw [if_pos h] at h1 h2
      rw [if_neg (by omega), if_pos (by omega), if_pos (by omega)]
      refine ⟨h1, ?_⟩
      show (writtenD ws (s : Int) j).wa ++ [_] = _
      rw [h2, List.drop_append_of_le_length (by omega), List.map_append]
      rfl
    · subst h
      rw [if_pos rfl, if_pos (by omega), if_pos (by omega)]
      refine ⟨hno, ?_⟩
      show ([] : List (Nat × List UInt8)) ++ [_] = _
      rw [List.drop_append_of_le_length (by omega), List.drop_of_length_le (by omega)]
      rfl
    · rw [if_neg (by omega)] at h1 h2
      rw [if_neg (by omega), if_neg (by omega), if_neg (by omega)]
      refine ⟨h1, ?_⟩
      show (writtenD ws (s : Int) j).wa ++ [_] = _
      rw [h2, List.map_append]
      rfl
/-- the disk of the law: all of it made sure behind s writes. -/
def leftD (ws : List (UInt8 × List UInt8)) (s n : Nat) : Dd := if s = n then (writtenD ws s n).settle else writtenD ws s n
theorem leftD_spec {ws : List (UInt8 × List UInt8)} {s n : Nat} (hn : ws.length = n) (hs : s ≤ n) : (leftD ws s n).su = applyW z5 ((ws.take s).map entW) ∧ (leftD ws s n).no = applyW z5 (ws.map entW) ∧ (leftD ws s n).wa = (ws.drop s).map entW ∧ (leftD ws s n).Live n := by
  have hlv := live_written ws (s : Int) n
  have hno := written_no ws (s : Int) n
  rw [List.take_of_length_le (by omega)] at hno
  unfold leftD
  split
  · rename_i h
    subst h
    refine ⟨by rw [List.take_of_length_le (by omega)]; exact hno, hno, by rw [List.drop_of_length_le (by omega)]; rfl, hlv.lf, hlv.bl, hlv.no, hlv.no, Nat.zero_le _⟩
  · obtain ⟨h1, h2⟩ := written_sw ws s n (by omega)
    rw [if_pos (by omega)] at h1 h2
    rw [List.take_of_length_le (l := ws) (by omega)] at h2
    exact ⟨h1, hno, h2, hlv⟩
theorem left_first {ws : List (UInt8 × List UInt8)} {s k n : Nat} (hn : ws.length = n) (hk : k ≤ n - s) (hs : s ≤ n) {kept : List Bool} (h1 : ∀ i, i < k → kept[i]? = some true) (h2 : ∀ i, k ≤ i → kept[i]? ≠ some true) (hl : k ≤ kept.length) :
    failK (leftD ws s n).su (leftD ws s n).wa kept (min (leftD ws s n).wa.length kept.length) = applyW z5 ((ws.take (s + k)).map entW) := by
  obtain ⟨e1, -, e3, -⟩ := leftD_spec hn hs
  have hwl : (leftD ws s n).wa.length = n - s := by rw [e3, List.length_map, List.length_drop, hn]
  rw [failK_stop h2, hwl, show min (min (n - s) kept.length) k = k from by omega, failK_true k (by omega) h1, e1, e3, ← applyW_append]
  congr 1
  rw [← List.map_take, ← List.map_append]
  congr 1
  rw [List.take_add]
theorem rep_at {k i : Nat} {b : Bool} (h : i < k) : (List.replicate k b)[i]? = some b := by rw [List.getElem?_replicate, if_pos h]
theorem left_k1 {ws : List (UInt8 × List UInt8)} {s k n : Nat} (hn : ws.length = n) (hk : k ≤ n - s) (hs : s ≤ n) :
    failK (leftD ws s n).su (leftD ws s n).wa (List.replicate k true) (min (leftD ws s n).wa.length (List.replicate k true).length) = applyW z5 ((ws.take (s + k)).map entW) :=
  left_first hn hk hs (fun i hi => rep_at hi) (fun i hi h => by rw [List.getElem?_eq_none (by rw [List.length_replicate]; exact hi)] at h; cases h) (by rw [List.length_replicate]; omega)
theorem left_k2 {ws : List (UInt8 × List UInt8)} {s k n : Nat} (hn : ws.length = n) (hk : k ≤ n - s) (hs : s ≤ n) :
    failK (leftD ws s n).su (leftD ws s n).wa (List.replicate k true ++ List.replicate n false) (min (leftD ws s n).wa.length (List.replicate k true ++ List.replicate n false).length) = applyW z5 ((ws.take (s + k)).map entW) :=
  left_first hn hk hs (fun i hi => by rw [List.getElem?_append_left (by rw [List.length_replicate]; exact hi)]; exact rep_at hi) (fun i hi h => by
    rw [List.getElem?_append_right (by rw [List.length_replicate]; exact hi), List.getElem?_replicate] at h
    split at h <;> cases h) (by rw [List.length_append, List.length_replicate]; omega)
theorem left_k3 {ws : List (UInt8 × List UInt8)} {s n : Nat} (hn : ws.length = n) (hs : s ≤ n) :
    failK (leftD ws s n).su (leftD ws s n).wa (List.replicate n true) (min (leftD ws s n).wa.length (List.replicate n true).length) = (leftD ws s n).no := by
  obtain ⟨e1, e2, e3, -⟩ := leftD_spec hn hs
  have hwl : (leftD ws s n).wa.length = n - s := by rw [e3, List.length_map, List.length_drop, hn]
  rw [hwl, List.length_replicate, show min (n - s) n = n - s from by omega, failK_true (n - s) (by omega) (fun i hi => rep_at (by omega)), e1, e2, e3, ← applyW_append, ← List.map_take, ← List.map_append, List.take_of_length_le (l := ws.drop s) (by rw [List.length_drop]; omega), List.take_append_drop]
theorem written_cut {ws : List (UInt8 × List UInt8)} {m : Nat} : (writtenD (ws.take m) 101 m).no = applyW z5 ((ws.take m).map entW) := by rw [written_no, List.take_take, Nat.min_self]
theorem RdW.cut {L : List Ent} {A : Option Addr} {n c : Nat} {hs : List Value} {ws : List (UInt8 × List UInt8)} (h : RdW L A n c hs ws) {m : Nat} (hm : m ≤ n) : RdW L A m c (hs.take (m * 2)) (ws.take m) := by
  have hl := h.len
  have hx : ∀ (j : Nat) (x : UInt8 × List UInt8), (ws.take m)[j]? = some x → j < m ∧ ws[j]? = some x := fun j x hx => by
    rw [List.getElem?_take] at hx
    split at hx
    · rename_i h1; exact ⟨h1, hx⟩
    · cases hx
  refine ⟨fun w H => ?_, by rw [List.length_take]; omega, fun j x hj => ?_, fun j x hj => ?_⟩
  · have r := h.head w H
    have hrl := r.len
    have hle := r.le
    refine ⟨by omega, r.top, by rw [List.length_take]; omega, r.nil, fun h0 => ?_⟩
    obtain ⟨b', o', e, hc⟩ := r.at_ (by omega)
    refine ⟨b', o', e, fun j hj => ?_⟩
    rw [hc j (by omega), List.getElem?_take, if_pos (by omega)]
  · obtain ⟨h1, h2⟩ := hx j x hj
    rw [List.getElem?_take, if_pos (by omega)]
    exact h.num j x h2
  · obtain ⟨h1, h2⟩ := hx j x hj
    obtain ⟨B, q, k, h3, h4⟩ := h.at_ j x h2
    exact ⟨B, q, k, by rw [List.getElem?_take, if_pos (by omega)]; exact h3, h4⟩
end Go.Proofs.Ytaegjjaabeakoaa
