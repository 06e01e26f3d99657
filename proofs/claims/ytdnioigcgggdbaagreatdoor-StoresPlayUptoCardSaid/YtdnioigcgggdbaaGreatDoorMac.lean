/-
  Rows of values of many cells: loads, stores and copies, over a list of entries. Nothing of the program stands here.
  Slices of the call's own whose cap may be less than their block's cells (clipped ones), of one cell an element; what a slice and what was appended behind it hold. Nothing of the program stands here.
-/
import Derived.Test.YtdnioigcgggdbaaGreatDoorMab
import Derived.RangeFuncRecord
set_option linter.unusedVariables false
set_option linter.unusedSimpArgs false
namespace Go.Proofs.YtdnioigcgggdbaaGreatDoor
open Go.RowKit

theorem wrap_u64_small {x : Int} (h0 : 0 ≤ x) (h1 : x < 18446744073709551616) : IntKind.u64.wrap x = x := by rw [IntKind.wrap_u64, Int.emod_eq_of_lt h0 (by omega)]
theorem wrapI {x : Int} (h0 : -9223372036854775808 ≤ x) (h1 : x < 9223372036854775808) : IntKind.i64.wrap x = x := by rw [IntKind.wrap_i64]; omega

theorem setL_length : ∀ (vs : List Value) (k : Nat) (cs : List Value), (setL cs k vs).length = cs.length
  | [], _, _ => rfl
  | v :: r, k, cs => by rw [setL, setL_length r]; simp
theorem setL_eq : ∀ (vs : List Value) (k : Nat) (cs : List Value), k + vs.length ≤ cs.length → setL cs k vs = cs.take k ++ vs ++ cs.drop (k + vs.length)
  | [], k, cs, _ => by simp [setL]
  | v :: r, k, cs, h => by
    simp only [List.length_cons] at h
    rw [setL, setL_eq r (k + 1) (cs.set k v) (by simp; omega)]
    rw [List.take_add_one, List.take_set_of_le (Nat.le_refl k), List.getElem?_set_self (by omega), List.drop_set_of_lt (by omega)]
    simp [Nat.add_assoc, Nat.add_comm 1]
theorem setL_take : ∀ (vs : List Value) (k m : Nat) (cs : List Value), (setL cs k vs).take m = setL (cs.take m) k vs
  | [], _, _, _ => rfl
  | v :: r, k, m, cs => by rw [setL, setL, setL_take r (k + 1) m, List.take_set]
theorem cur_setCells {b : Nat} {T : TypeId} : ∀ (vs : List Value) (k : Nat) (cur : Array Value) (w : World), w.heap[b]? = some (.cells cur T (0, 0)) → ∃ cur' : Array Value, (w.setCells b k vs).heap[b]? = some (.cells cur' T (0, 0)) ∧ cur'.toList = setL cur.toList k vs
  | [], _, cur, _, h => ⟨cur, h, rfl⟩
  | v :: r, k, cur, w, h => by
    rw [World.setCells, setL]
    obtain ⟨c, h1, h2⟩ := cur_setCells r (k + 1) (cur.setIfInBounds k v) _ (heap_setCell_same w b k cur T v h)
    exact ⟨c, h1, by rw [h2]; simp⟩
theorem setL_all' {xs ys : List Value} (h : ys.length = xs.length) : setL xs 0 ys = ys := by
  rw [setL_eq _ _ _ (by omega), List.take_zero, List.nil_append, Nat.zero_add, h, List.drop_length, List.append_nil]
/-- cells written into a row of the call's own. -/
theorem Holds.writeO {w : World} {L L' : List Ent} {e : TypeId} {size b n n' cap k : Nat} {xs vs : List Value} (H : Holds w L)
    (hm : Upd (ownE e size (.slice (some ⟨b, 0, none⟩) n cap) n' xs) (ownE e size (.slice (some ⟨b, 0, none⟩) n cap) n' (setL xs k vs)) L L') (hk : k + vs.length ≤ xs.length) :
    w.there b k vs.length ∧ Holds (w.setCells b k vs) L' := by
  have ho : w.ownsRow 0 e size (.slice (some ⟨b, 0, none⟩) n cap) n' xs := H.all _ hm.mem
  obtain ⟨hl, h2⟩ := ho
  rcases h2 with ⟨hv, -⟩ | ⟨g, c, cur, hv, hg, hh, hnc, hcm, hcs, htake⟩
  · cases hv
  have hgc : g = b ∧ c = cap ∧ n = n' := by
    injection hv with e1 e2 e3
    injection e1 with e1
    injection e1 with e1
    exact ⟨e1.symm, e3.symm, e2⟩
  obtain ⟨rfl, rfl, rfl⟩ := hgc
  have hle : n * size ≤ c * size := Nat.mul_le_mul_right _ hnc
  refine ⟨fun j hj => ⟨?_, frozen_of_row w g (k + j) cur e hh⟩, ?_⟩
  · rw [cell_of_row w g (k + j) cur e (0, 0) hh, Array.getElem?_eq_getElem (by omega)]; rfl
  · obtain ⟨cur', h1, h2⟩ := cur_setCells vs k cur w hh
    refine H.upd hm rfl ((kept_setCells (b := g) vs k w (.refl _ w)).imp fun b hb hb2 => hb (by rw [hb2]; rfl)) ?_ fun _ hb => .inl hb
    refine ⟨by rw [setL_length]; exact hl, .inr ⟨g, c, cur', rfl, Nat.zero_le _, h1, hnc, hcm, ?_, by rw [h2, setL_take, htake]⟩⟩
    have := congrArg List.length h2
    rw [setL_length] at this
    simp only [Array.length_toList] at this
    omega
section
variable {P : Program} {ops : Array Oper} {rest : List Oper} {a : Act} {w : World} {Q : Exit → Act → World → Prop} {L : List Ent} {dst : Option Tmp} {T : TypeId} {x y : Operand} {ty : TypeId} {pos : String} {after : Array Edge} {gd : Option (Nat × Bool)} {K : Act → World → Prop}
/-- a row of n cells out of a slice that reads. -/
theorem run_loadR (H : Holds w L) {b o k : Nat} (hx : a.eval x = .pointer (some ⟨b, o + k, none⟩)) {size m cap : Nat} {xs : List Value} (hm : Gives L fun w => Rd w size (some ⟨b, o, none⟩) m cap xs)
    {n : Nat} (hs : AggOf P T n) (hk : k + n ≤ m * size) (hn : 0 < m) {vs : List Value} (hv : (xs.drop k).take n = vs) : (execOp a.eval ⟨dst, .load T x, ty, pos, after, gd⟩).run P w = .ok (.value (.agg vs.toArray)) w := by
  subst hv
  obtain ⟨⟨d, hd, hr⟩, hi⟩ := aggB_spec hs
  have hR := hm w H
  obtain ⟨b', o', e, hc⟩ := hR.at_ hn
  injection e with e
  injection e with e1 e2
  subst e1 e2
  have hl := hR.len
  have hc2 : w.rangeAt b (o + k) ((xs.drop k).take n) := fun j v hj => by
    rw [List.getElem?_take] at hj
    split at hj
    · rename_i hjn
      rw [List.getElem?_drop] at hj
      rw [Nat.add_assoc, hc (k + j) (by omega)]
      exact hj
    · cases hj
  unfold execOp
  simp only [hx, Sem.run_bind, run_loadAt_mid w b (o + k) T _ d hc2 hd hr (by rw [hi, List.length_take, List.length_drop]; congr 1; omega), Sem.run_pure, Result.andThen_ok]
theorem wpl_loadR (H : Holds w L) (hw : Region.wanted ⟨dst, .load T x, ty, pos, after, gd⟩ (yielded ops a.tmps) = true) {b o k : Nat} (hx : a.eval x = .pointer (some ⟨b, o + k, none⟩)) {size m cap : Nat} {xs : List Value} (hm : Gives L fun w => Rd w size (some ⟨b, o, none⟩) m cap xs)
    {n : Nat} (hs : AggOf P T n) (hk : k + n ≤ m * size) (hn : 0 < m) {vs : List Value} (hv : (xs.drop k).take n = vs) (h : wpList P ops Q rest (a.put dst (.agg vs.toArray)) w) : wpList P ops Q (⟨dst, .load T x, ty, pos, after, gd⟩ :: rest) a w :=
  wpl_run hw (run_loadR H hx hm hs hk hn hv) h
theorem wpl_loadR0 (H : Holds w L) (hw : Region.wanted ⟨dst, .load T x, ty, pos, after, gd⟩ (yielded ops a.tmps) = true) {b k : Nat} (hx : a.eval x = .pointer (some ⟨b, k, none⟩)) {size m cap : Nat} {xs : List Value} (hm : Gives L fun w => Rd w size (some ⟨b, 0, none⟩) m cap xs)
    {n : Nat} (hs : AggOf P T n) (hk : k + n ≤ m * size) (hn : 0 < m) {vs : List Value} (hv : (xs.drop k).take n = vs) (h : wpList P ops Q rest (a.put dst (.agg vs.toArray)) w) : wpList P ops Q (⟨dst, .load T x, ty, pos, after, gd⟩ :: rest) a w :=
  wpl_run hw (run_loadR (o := 0) H (by rw [Nat.zero_add]; exact hx) hm hs hk hn hv) h
/-- a row of cells stored into a row of the call's own. -/
theorem run_storeR {L' : List Ent} (H : Holds w L) {b k : Nat} (hx : a.eval x = .pointer (some ⟨b, k, none⟩)) {vs : List Value} (hy : a.eval y = .agg vs.toArray) (h1 : ∀ v ∈ vs, v.oneCell' = true)
    {e : TypeId} {size n n' cap : Nat} {xs : List Value} (hm : Upd (ownE e size (.slice (some ⟨b, 0, none⟩) n cap) n' xs) (ownE e size (.slice (some ⟨b, 0, none⟩) n cap) n' (setL xs k vs)) L L') (hs : SizeIs P T vs.length) (hk : k + vs.length ≤ xs.length) :
    (execOp a.eval ⟨dst, .store T x y, ty, pos, after, gd⟩).run P w = .ok .skip (w.setCells b k vs) := by
  have ht := (H.writeO hm hk).1
  have hr := run_storeAt_mid (P := P) w b k T vs.toArray (by simpa using ht) (by unfold SizeIs at hs; simpa using hs) (all_oneCell_toArray h1)
  unfold execOp
  simp only [hx, hy, Sem.run_bind, hr, Sem.run_pure, Result.andThen_ok]
theorem wpl_storeR {L' : List Ent} (H : Holds w L) (hw : Region.wanted ⟨dst, .store T x y, ty, pos, after, gd⟩ (yielded ops a.tmps) = true) {b k : Nat} (hx : a.eval x = .pointer (some ⟨b, k, none⟩)) {vs : List Value} (hy : a.eval y = .agg vs.toArray) (h1 : ∀ v ∈ vs, v.oneCell' = true)
    {e : TypeId} {size n n' cap : Nat} {xs : List Value} (hm : Upd (ownE e size (.slice (some ⟨b, 0, none⟩) n cap) n' xs) (ownE e size (.slice (some ⟨b, 0, none⟩) n cap) n' (setL xs k vs)) L L') (hs : SizeIs P T vs.length) (hk : k + vs.length ≤ xs.length)
    (h : ∀ w', Holds w' L' → wpList P ops Q rest (a.put dst undef) w') : wpList P ops Q (⟨dst, .store T x y, ty, pos, after, gd⟩ :: rest) a w :=
  wpl_skip hw (run_storeR H hx hy h1 hm hs hk) (h _ (H.writeO hm hk).2)
theorem opw_storeR {L' : List Ent} (H : Holds w L) {b k : Nat} (hx : a.eval x = .pointer (some ⟨b, k, none⟩)) {vs : List Value} (hy : a.eval y = .agg vs.toArray) (h1 : ∀ v ∈ vs, v.oneCell' = true)
    {e : TypeId} {size n n' cap : Nat} {xs : List Value} (hm : Upd (ownE e size (.slice (some ⟨b, 0, none⟩) n cap) n' xs) (ownE e size (.slice (some ⟨b, 0, none⟩) n cap) n' (setL xs k vs)) L L') (hs : SizeIs P T vs.length) (hk : k + vs.length ≤ xs.length)
    (h : ∀ w', Holds w' L' → K (a.put dst undef) w') : Oper.wp P ⟨dst, .store T x y, ty, pos, after, gd⟩ a w K Q :=
  opw_skip (run_storeR H hx hy h1 hm hs hk) (h _ (H.writeO hm hk).2)
/-! ### copy -/
theorem run_copyN {dT sT elem : TypeId} {b o dLen dCap : Nat} {A : Option Addr} {m c size : Nat} {ys : List Value} (hu : P.underlying dT = some (.slice elem)) (hs : (P.info? elem).map (·.size) = some size) (hr : Rd w size A m c ys) (h1 : ∀ v ∈ ys, v.oneCell' = true)
    (ht : w.there b o (Nat.min m dLen * size)) :
    (Builtin.copy_ #[dT, sT] ty #[.slice (some ⟨b, o, none⟩) dLen dCap, .slice A m c]).run P w = .ok (goInt (Nat.min m dLen)) (w.setCells b o (ys.take (Nat.min m dLen * size))) := by
  obtain ⟨i, hi, hz⟩ := Option.map_eq_some_iff.1 hs
  have hlen : (ys.take (Nat.min m dLen * size)).length = Nat.min m dLen * size := by
    rw [List.length_take, hr.len]
    exact Nat.min_eq_left (Nat.mul_le_mul_right _ (Nat.min_le_left _ _))
  have hst := run_storeCells_cells (P := P) b o (ys.take (Nat.min m dLen * size)) 0 w (fun j hj => by simpa using (ht j (by rw [← hlen]; exact hj)).1) (fun j hj => by simpa using (ht j (by rw [← hlen]; exact hj)).2) (fun v hv => h1 v (List.mem_of_mem_take hv))
  cases A with
  | none =>
    obtain rfl : c = 0 := hr.nil rfl
    obtain rfl : m = 0 := by have := hr.le; omega
    have e0 : Nat.min 0 dLen = 0 := Nat.zero_min _
    rw [e0] at hst ⊢
    simp [Builtin.copy_, run_underlying hu, Builtin.lenOf, Builtin.firstCells, sizeOf, typeInfo, hi, hz, storeCells, World.setCells, e0]
  | some ad =>
    have hl : (loadCells ad (Nat.min m dLen * size)).run P w = .ok (ys.take (Nat.min m dLen * size)).toArray w := by
      have := run_loadCells_list (P := P) w ad (ys.take (Nat.min m dLen * size)) (fun j v hj => by
        rw [List.getElem?_take] at hj
        split at hj
        · rename_i hlt
          have hle : Nat.min m dLen * size ≤ m * size := Nat.mul_le_mul_right _ (Nat.min_le_left _ _)
          have hm0 : 0 < m := by
            rcases Nat.eq_zero_or_pos m with h | h
            · subst h; rw [show Nat.min 0 dLen = 0 from Nat.zero_min _] at hlt; simp at hlt
            · exact h
          obtain ⟨b', o', e, hc⟩ := hr.at_ hm0
          injection e with e
          subst e
          rw [add_mk, hc j (by omega)]
          exact hj
        · cases hj)
      rwa [hlen] at this
    simp only [Nat.add_zero] at hst
    simp [Builtin.copy_, run_underlying hu, Builtin.lenOf, Builtin.firstCells, sizeOf, typeInfo, hi, hz, hl, hst]
/-- copy into a row of the call's own. -/
theorem wpl_copyO {L' : List Ent} {s : Operand} {dT sT : TypeId} (H : Holds w L) (hw : Region.wanted ⟨dst, .call { callee := .builtin .copy, args := #[x, s], argTypes := #[dT, sT] }, ty, pos, after, gd⟩ (yielded ops a.tmps) = true)
    {b dLen dCap : Nat} (hx : a.eval x = .slice (some ⟨b, 0, none⟩) dLen dCap) {A : Option Addr} {m c : Nat} (hy : a.eval s = .slice A m c) {elem : TypeId} {size : Nat} (hu : P.underlying dT = some (.slice elem)) (hs : (P.info? elem).map (·.size) = some size)
    {ys : List Value} (hr : Gives L fun w => Rd w size A m c ys) (h1 : ∀ v ∈ ys, v.oneCell' = true) {e : TypeId} {xs : List Value}
    (hm : Upd (ownE e size (.slice (some ⟨b, 0, none⟩) dLen dCap) dLen xs) (ownE e size (.slice (some ⟨b, 0, none⟩) dLen dCap) dLen (setL xs 0 (ys.take (Nat.min m dLen * size)))) L L')
    (h : ∀ w', Holds w' L' → wpList P ops Q rest (a.put dst (goInt (Nat.min m dLen))) w') : wpList P ops Q (⟨dst, .call { callee := .builtin .copy, args := #[x, s], argTypes := #[dT, sT] }, ty, pos, after, gd⟩ :: rest) a w := by
  have hR := hr w H
  have hlen : (ys.take (Nat.min m dLen * size)).length = Nat.min m dLen * size := by
    rw [List.length_take, hR.len]
    exact Nat.min_eq_left (Nat.mul_le_mul_right _ (Nat.min_le_left _ _))
  have hxl : xs.length = dLen * size := by
    have ho : w.ownsRow 0 e size (.slice (some ⟨b, 0, none⟩) dLen dCap) dLen xs := H.all _ hm.mem
    exact ho.1
  have hle : Nat.min m dLen * size ≤ dLen * size := Nat.mul_le_mul_right _ (Nat.min_le_right _ _)
  obtain ⟨ht, hH⟩ := H.writeO hm (by rw [hlen, hxl]; omega)
  rw [hlen] at ht
  have hrun := run_copyN (P := P) (ty := ty) (sT := sT) (dCap := dCap) hu hs hR h1 ht
  refine wpList_step fun K hK => ?_
  rw [if_pos hw]
  unfold Oper.wp execOp
  simp only [resolve, invoke, builtin, Sem.run_bind, Sem.run_pure, Result.andThen_ok, List.map_toArray, List.map_cons, List.map_nil, hx, hy, hrun]
  exact hK _ _ (h _ hH)
theorem opw_copyO {L' : List Ent} {s : Operand} {dT sT : TypeId} (H : Holds w L)
    {b dLen dCap : Nat} (hx : a.eval x = .slice (some ⟨b, 0, none⟩) dLen dCap) {A : Option Addr} {m c : Nat} (hy : a.eval s = .slice A m c) {elem : TypeId} {size : Nat} (hu : P.underlying dT = some (.slice elem)) (hs : (P.info? elem).map (·.size) = some size)
    {ys : List Value} (hr : Gives L fun w => Rd w size A m c ys) (h1 : ∀ v ∈ ys, v.oneCell' = true) {e : TypeId} {xs : List Value}
    (hm : Upd (ownE e size (.slice (some ⟨b, 0, none⟩) dLen dCap) dLen xs) (ownE e size (.slice (some ⟨b, 0, none⟩) dLen dCap) dLen (setL xs 0 (ys.take (Nat.min m dLen * size)))) L L')
    (h : ∀ w', Holds w' L' → K (a.put dst (goInt (Nat.min m dLen))) w') : Oper.wp P ⟨dst, .call { callee := .builtin .copy, args := #[x, s], argTypes := #[dT, sT] }, ty, pos, after, gd⟩ a w K Q := by
  have hR := hr w H
  have hlen : (ys.take (Nat.min m dLen * size)).length = Nat.min m dLen * size := by
    rw [List.length_take, hR.len]
    exact Nat.min_eq_left (Nat.mul_le_mul_right _ (Nat.min_le_left _ _))
  have hxl : xs.length = dLen * size := by
    have ho : w.ownsRow 0 e size (.slice (some ⟨b, 0, none⟩) dLen dCap) dLen xs := H.all _ hm.mem
    exact ho.1
  have hle : Nat.min m dLen * size ≤ dLen * size := Nat.mul_le_mul_right _ (Nat.min_le_right _ _)
  obtain ⟨ht, hH⟩ := H.writeO hm (by rw [hlen, hxl]; omega)
  rw [hlen] at ht
  have hrun := run_copyN (P := P) (ty := ty) (sT := sT) (dCap := dCap) hu hs hR h1 ht
  unfold Oper.wp execOp
  simp only [resolve, invoke, builtin, Sem.run_bind, Sem.run_pure, Result.andThen_ok, List.map_toArray, List.map_cons, List.map_nil, hx, hy, hrun]
  exact h _ hH
/-- copy into a block that is known whole. -/
theorem wpl_copyB {L' : List Ent} {s : Operand} {dT sT : TypeId} (H : Holds w L) (hw : Region.wanted ⟨dst, .call { callee := .builtin .copy, args := #[x, s], argTypes := #[dT, sT] }, ty, pos, after, gd⟩ (yielded ops a.tmps) = true)
    {b o dLen dCap : Nat} (hx : a.eval x = .slice (some ⟨b, o, none⟩) dLen dCap) {A : Option Addr} {m c : Nat} (hy : a.eval s = .slice A m c) {elem : TypeId} {size : Nat} (hu : P.underlying dT = some (.slice elem)) (hs : (P.info? elem).map (·.size) = some size)
    {ys : List Value} (hr : Gives L fun w => Rd w size A m c ys) (h1 : ∀ v ∈ ys, v.oneCell' = true) {T' : TypeId} {cs cs' : List Value} (hk : o + dLen * size ≤ cs.length) (he : setL cs o (ys.take (Nat.min m dLen * size)) = cs')
    (hm : Upd (blk b cs T') (blk b cs' T') L L')
    (h : ∀ w', Holds w' L' → wpList P ops Q rest (a.put dst (goInt (Nat.min m dLen))) w') : wpList P ops Q (⟨dst, .call { callee := .builtin .copy, args := #[x, s], argTypes := #[dT, sT] }, ty, pos, after, gd⟩ :: rest) a w := by
  subst he
  have hR := hr w H
  have hle : Nat.min m dLen * size ≤ dLen * size := Nat.mul_le_mul_right _ (Nat.min_le_right _ _)
  have hb := H.all _ hm.mem
  have ht : w.there b o (Nat.min m dLen * size) := fun j hj => by
    refine ⟨?_, frozen_of_row w b (o + j) _ T' hb⟩
    rw [cell_of_row w b (o + j) _ T' (0, 0) hb]
    simp; omega
  have hrun := run_copyN (P := P) (ty := ty) (sT := sT) (dCap := dCap) hu hs hR h1 ht
  refine wpList_step fun K hK => ?_
  rw [if_pos hw]
  unfold Oper.wp execOp
  simp only [resolve, invoke, builtin, Sem.run_bind, Sem.run_pure, Result.andThen_ok, List.map_toArray, List.map_cons, List.map_nil, hx, hy, hrun]
  exact hK _ _ (h _ (H.store hm))
/-! ### a slice of one value, written out -/
theorem foldl_set : ∀ (l : List Value) (k : Nat) (cs : Array Value), (l.zipIdx k).foldl (fun (cs : Array Value) (x : Value × Nat) => cs.setIfInBounds (0 + x.2) x.1) cs = (setL cs.toList k l).toArray
  | [], k, cs => by simp [setL]
  | v :: r, k, cs => by
    rw [List.zipIdx_cons, List.foldl_cons, foldl_set r (k + 1), setL, Nat.zero_add]
    simp
theorem fill_whole {size : Nat} {Z : Array Value} {v : Value} {vs : List Value} (hv : v.cells = vs.toArray) (hl : vs.length = size) (hz : Z.size = size) : Instr.fill (fun i => some (i * size, size)) Z [(0, v)] = some vs.toArray := by
  unfold Instr.fill
  simp only [Nat.zero_mul, hv, List.size_toArray, hl, ne_eq, not_true_eq_false, Nat.zero_add, hz, Nat.lt_irrefl, gt_iff_lt, decide_false, Bool.or_false, Bool.or_self, Bool.false_eq_true, if_false]
  unfold Instr.fill
  congr 1
  have h := foldl_set vs 0 Z
  rw [setL_all' (by rw [hl]; simpa using hz.symm)] at h
  simp only [Nat.zero_add] at h
  refine Eq.trans ?_ h
  simp
theorem run_sizeOf' {e : TypeId} {i : TypeInfo} (hi : P.info? e = some i) (w : World) : (sizeOf e).run P w = .ok i.size w := by simp [sizeOf, typeInfo, hi]
theorem run_zeroValue' {e : TypeId} {i : TypeInfo} {z : Value} (hi : P.info? e = some i) (hz : i.zero = some z) (w : World) : (zeroValue e).run P w = .ok z w := by simp [zeroValue, typeInfo, hi, hz]
theorem run_slice1 {t e : TypeId} {z v : Value} {size bytes : Nat} {vs : List Value} (hv : v.cells = vs.toArray) (ht : P.underlying t = some (.slice e)) (hinfo : (P.info? e).map (fun i => (i.zero, i.size, i.bytes)) = some (some z, size, bytes))
    (hzs : z.cells.size = size) (hl : vs.length = size) (h0 : 0 < size) (h24 : size ≤ 16777216) : (Instr.buildSlice t 1 #[(0, v)]).run P w = .ok (.slice (some ⟨w.heap.size, 0, none⟩) 1 1) (w.alloc (.cells vs.toArray e)) := by
  obtain ⟨i, hi, hz, hsize, hby⟩ := info_parts hinfo
  have h1 : ¬ 16777216 < 1 * i.size := by omega
  have h2 : ¬ 1 * i.size = 0 := by omega
  have hf := fill_whole (size := i.size) (Z := (Array.range (1 * i.size)).map fun j => z.cells[j % z.cells.size]!) hv (by omega) (by simp)
  simp only [Instr.buildSlice, Sem.run_bind, run_underlying ht, Result.andThen_ok, run_sizeOf' hi, Nat.reducePow, h1, h2, if_false, gt_iff_lt, Sem.run_pure, run_zeroValue' hi hz, List.toList_toArray, hf]
  rfl
theorem opw_slice1 {t e : TypeId} {z : Value} {size bytes : Nat} {vs : List Value} (H : Holds w L) (hx : (a.eval x).cells = vs.toArray) (ht : P.underlying t = some (.slice e)) (hinfo : (P.info? e).map (fun i => (i.zero, i.size, i.bytes)) = some (some z, size, bytes))
    (hzs : z.cells.size = size) (hl : vs.length = size) (h0 : 0 < size) (h24 : size ≤ 16777216) (h : ∀ b w', Holds w' (blk b vs e :: L) → K (a.put dst (.slice (some ⟨b, 0, none⟩) 1 1)) w') :
    Oper.wp P ⟨dst, .buildSlice t 1 #[(0, x)], ty, pos, after, gd⟩ a w K Q := by
  refine opw_run (v := .slice (some ⟨w.heap.size, 0, none⟩) 1 1) (w' := w.alloc (.cells vs.toArray e)) ?_ (h _ _ (H.alloc vs e))
  have hr := run_slice1 (P := P) (w := w) hx ht hinfo hzs hl h0 h24
  unfold execOp
  simp only [List.map_toArray, List.map_cons, List.map_nil, Sem.run_bind, hr, Result.andThen_ok, Sem.run_pure]
end
theorem ret_cell {P : Program} {fn : Func} {R : Ending → World → Prop} {a : Act} {w : World} {L : List Ent} {p n b : Nat} {T T' : TypeId} {cs : List Value} (hf : fn.results = #[.cell p T]) (hT : AggOf P T n) (hd : a.defers = []) (H : Holds w L) (hm : blk b cs T' ∈ L)
    (hp : a.tmps.getD p undef = .pointer (some ⟨b, 0, none⟩)) (hR : R (.returned (.agg cs.toArray)) w) (hl : cs.length = n := by rfl) : bodyPost P fn R .ret a w := by
  obtain ⟨⟨d, hd', hr⟩, hi⟩ := aggB_spec hT
  refine bodyPost_ret (v := .agg cs.toArray) ?_ hd hR
  have hc : w.rangeAt b 0 cs := H.range hm
  have := run_loadVar_mid (P := P) w b 0 T cs d hc hd' hr (by rw [hi, hl])
  have hp' : a.tmps[p]?.getD undef = .pointer (some ⟨b, 0, none⟩) := by simpa using hp
  simp [results, hf, hp', asAddr, this]
theorem Rd.tailB {w : World} {b o n c : Nat} {l : List UInt8} (hr : Rd w 1 (some ⟨b, o, none⟩) n c (bvs l)) (k : Nat) (hk : k < n) : Rd w 1 (some ⟨b, o + k, none⟩) (n - k) (c - k) (bvs (l.drop k)) := by
  have hl := hr.blen
  have hle := hr.le
  have := hr.cut k n c (by omega) (by omega) (by omega) (by omega)
  rw [if_neg (by omega), Option.map_some, Nat.mul_one, Nat.mul_one, ← bvs_drop, ← bvs_take, List.take_of_length_le (by rw [List.length_drop]; omega)] at this
  rwa [show (⟨b, o, none⟩ : Addr).add k = ⟨b, o + k, none⟩ by unfold Addr.add; split <;> simp_all] at this
theorem Rd.midB {w : World} {b o n c : Nat} {l : List UInt8} (hr : Rd w 1 (some ⟨b, o, none⟩) n c (bvs l)) (lo hi : Nat) (h1 : lo ≤ hi) (h2 : hi ≤ n) (h3 : lo < c) : Rd w 1 (some ⟨b, o + lo, none⟩) (hi - lo) (c - lo) (bvs ((l.drop lo).take (hi - lo))) := by
  have hle := hr.le
  have := hr.cut lo hi c (by omega) (by omega) (by omega) (by omega)
  rw [if_neg (by omega), Option.map_some, Nat.mul_one, Nat.mul_one, ← bvs_drop, ← bvs_take] at this
  rwa [show (⟨b, o, none⟩ : Addr).add lo = ⟨b, o + lo, none⟩ by unfold Addr.add; split <;> simp_all] at this
end Go.Proofs.YtdnioigcgggdbaaGreatDoor
set_option linter.unusedVariables false
set_option linter.unusedSimpArgs false
namespace Go.Proofs.YtdnioigcgggdbaaGreatDoor
open Go.RowKit

def rowW (w : World) (e : TypeId) (A : Option Addr) (n c : Nat) (xs : List Value) : Prop :=
  xs.length = n ∧ ((A = none ∧ n = 0 ∧ c = 0) ∨ ∃ (b : Nat) (arr : List Value), A = some ⟨b, 0, none⟩ ∧ w.heap[b]? = some (.cells arr.toArray e (0, 0)) ∧ n ≤ c ∧ c ≤ arr.length ∧ c ≤ maxLen ∧ arr.take n = xs)
def blockOf (A : Option Addr) : Option Nat := A.map (·.block)
def rowE (e : TypeId) (A : Option Addr) (n c : Nat) (xs : List Value) : Ent :=
  ⟨true, fun b => blockOf A = some b, fun w => rowW w e A n c xs,
   fun w w' hk h => by
    refine ⟨h.1, ?_⟩
    rcases h.2 with h2 | ⟨b, arr, h3, h4, r⟩
    · exact .inl h2
    · exact .inr ⟨b, arr, h3, (hk.block b (by rw [h3]; rfl) (Array.getElem?_eq_some_iff.1 h4).1).trans h4, r⟩,
   fun w h b hb => by
    rcases h.2 with ⟨h2, -⟩ | ⟨b', arr, h3, h4, r⟩
    · rw [h2] at hb; cases hb
    · rw [h3] at hb
      injection hb with hb
      subst hb
      exact (Array.getElem?_eq_some_iff.1 h4).1⟩
theorem row_of_own {w : World} {e : TypeId} {A : Option Addr} {n c : Nat} {xs : List Value} (h : w.ownsRow 0 e 1 (.slice A n c) n xs) : rowW w e A n c xs := by
  refine ⟨by have := h.1; omega, ?_⟩
  rcases h.2 with ⟨hv, h0⟩ | ⟨g, cap, cur, hv, -, hg, hn, hc, hs, ht⟩
  · injection hv with h1 h2 h3
    exact .inl ⟨h1, h2, h3⟩
  · injection hv with h1 h2 h3
    subst h3
    exact .inr ⟨g, cur.toList, h1, by simpa using hg, hn, by simp; omega, hc, by simpa using ht⟩
theorem Holds.to_row {w : World} {L : List Ent} {e : TypeId} {A : Option Addr} {n c : Nat} {xs : List Value} (H : Holds w (ownE e 1 (.slice A n c) n xs :: L)) : Holds w (rowE e A n c xs :: L) :=
  H.set rfl (.refl _ w) (row_of_own H.head) fun b hb => .inl (by
    have : blockOf A = some b := hb
    show (Value.slice A n c).ownBlock = some b
    cases A with
    | none => cases this
    | some a => exact this)
theorem Holds.clip {w : World} {L : List Ent} {e : TypeId} {A : Option Addr} {n c : Nat} {xs : List Value} (H : Holds w (rowE e A n c xs :: L)) : Holds w (rowE e A n n xs :: L) :=
  H.set rfl (.refl _ w) (by
    obtain ⟨h1, h2⟩ := H.head
    refine ⟨h1, ?_⟩
    rcases h2 with ⟨h3, h4, h5⟩ | ⟨b, arr, h3, h4, h5, h6, h7, h8⟩
    · exact .inl ⟨h3, h4, h4⟩
    · exact .inr ⟨b, arr, h3, h4, Nat.le_refl _, by omega, by omega, h8⟩) fun b hb => .inl hb
theorem row_rd {w : World} {e : TypeId} {A : Option Addr} {n c : Nat} {xs : List Value} (h : rowW w e A n c xs) : Rd w 1 A n c xs := by
  obtain ⟨h1, h2⟩ := h
  rcases h2 with ⟨h3, h4, h5⟩ | ⟨b, arr, h3, h4, h5, h6, h7, h8⟩
  · subst h3 h4 h5
    exact ⟨Nat.le_refl _, by simp [maxLen], by omega, fun _ => rfl, fun h => absurd h (by decide)⟩
  · subst h3
    refine ⟨h5, h7, by omega, (fun h => by cases h), fun _ => ⟨b, 0, rfl, fun j hj => ?_⟩⟩
    rw [cell_of_row w b (0 + j) _ e (0, 0) h4, ← h8]
    simp only [Nat.zero_add, List.getElem?_toArray]
    rw [List.getElem?_take, if_pos (by omega)]
theorem gives_row {L : List Ent} {e : TypeId} {A : Option Addr} {n c : Nat} {xs : List Value} (h : rowE e A n c xs ∈ L) : Gives L fun w => Rd w 1 A n c xs := fun w H => row_rd (H.all _ h)
theorem row_some {w : World} {e : TypeId} {A : Option Addr} {n c : Nat} {xs : List Value} (h : rowW w e A n c xs) (hn : 0 < n) : ∃ b, A = some ⟨b, 0, none⟩ := by
  rcases h.2 with ⟨-, h4, -⟩ | ⟨b, arr, h3, -⟩
  · omega
  · exact ⟨b, h3⟩
/-- one cell is written. -/
theorem Holds.row_set {w : World} {L : List Ent} {e : TypeId} {b n c k : Nat} {xs : List Value} {v : Value} (H : Holds w (rowE e (some ⟨b, 0, none⟩) n c xs :: L)) (hk : k < n) :
    w.there b k 1 ∧ Holds (w.setCells b k [v]) (rowE e (some ⟨b, 0, none⟩) n c (xs.set k v) :: L) := by
  obtain ⟨h1, h2⟩ := H.head
  rcases h2 with ⟨h3, -⟩ | ⟨b', arr, h3, h4, h5, h6, h7, h8⟩
  · cases h3
  · injection h3 with h3
    injection h3 with h3
    subst h3
    refine ⟨fun j hj => ⟨?_, frozen_of_row w b (k + j) _ e h4⟩, ?_⟩
    · rw [cell_of_row w b (k + j) _ e (0, 0) h4]
      simp; omega
    · have hb2 := blk_setCells [v] k arr w h4
      have hk0 := kept_setCells (b := b) [v] k w (.refl _ w)
      refine H.set rfl ⟨hk0.os, hk0.tape, hk0.output, hk0.size, fun x hx hlt => hk0.block x (fun e => hx (by rw [e]; rfl)) hlt⟩ ⟨by rw [List.length_set]; exact h1, .inr ⟨b, setL arr k [v], rfl, hb2, h5, by rw [setL_len]; exact h6, h7, ?_⟩⟩ fun x hx => .inl hx
      have es : setL arr k [v] = arr.set k v := by simp [setL]
      rw [es, List.take_set, h8]
/-- one element more behind such a slice: in place where there is room, else in new memory. -/
theorem run_row_app {P : Program} {w : World} {t ty e : TypeId} {z : Value} {bytes : Nat} (ht : P.underlying t = some (.slice e)) (hinfo : (P.info? e).map (fun i => (i.zero, i.size, i.bytes)) = some (some z, 1, bytes)) (hz1 : z.cells.size = 1) (hb : bytes ≤ 1000000)
    {A : Option Addr} {n c : Nat} {xs : List Value} (h : rowW w e A n c xs) {q m : Nat} {v : Value} (hr : Rd w 1 (some ⟨q, 0, none⟩) 1 m [v]) (h1 : v.oneCell' = true) (h6 : n ≤ 1000000) :
    ∃ A' c' w', (Builtin.append_ #[t, t] ty #[.slice A n c, .slice (some ⟨q, 0, none⟩) 1 m]).run P w = .ok (.slice A' (n + 1) c') w' ∧ rowW w' e A' (n + 1) c' (xs ++ [v]) ∧
      ((A' = A ∧ c' = c ∧ (∃ b, A = some ⟨b, 0, none⟩ ∧ w.grownBy w' (some b)) ∧ n + 1 ≤ c) ∨ (blockOf A' = some w.heap.size ∧ Ext w w')) := by
  obtain ⟨i, hi, hz, hsize, hby⟩ := info_parts hinfo
  have hzl : ∀ k, (Builtin.zeroCells z.cells k).toList.length = k := fun k => by rw [Array.length_toList, size_zeroCells, hz1]; omega
  have hnew : ∀ (W : World) (o : Obj), (W.alloc o).heap[W.heap.size]? = some o := fun W o => World.alloc_heap_new W o
  have hadd : ∀ (b o j : Nat), (⟨b, o, none⟩ : Addr).add j = ⟨b, o + j, none⟩ := fun b o j => by unfold Addr.add; split <;> simp_all
  obtain ⟨q', o', eq, hcq⟩ := hr.at_ (by decide)
  injection eq with eq
  injection eq with eq eo
  subst eq eo
  have hnews : ∀ j u, [v][j]? = some u → w.cell? ((⟨q, 0, none⟩ : Addr).add j) = some u := fun j u hj => by
    rw [hadd, hcq j (by have := (List.getElem?_eq_some_iff.1 hj).1; simpa using this), hj]
  obtain ⟨hl, h2⟩ := h
  rcases h2 with ⟨h3, h4, h5⟩ | ⟨b, arr, h3, h4, h5, h6', h7, h8⟩
  · subst h3 h4 h5
    have hxs : xs = [] := List.eq_nil_of_length_eq_zero hl
    subst hxs
    have hrun := run_append_nil (P := P) (w := w) t ty e i z ht hi hz ⟨q, 0, none⟩ 1 m [v] (by rw [hsize]; rfl) hnews (by decide) (by decide) (by rw [hby]; omega)
    have hge := grownCap_ge w 1 0 e
    have hle := grownCap_le_maxLen w 1 0 e (by unfold maxLen; omega)
    generalize grownCap w 1 0 e = g at *
    refine ⟨_, _, _, hrun, ⟨rfl, .inr ⟨w.heap.size, [v] ++ (Builtin.zeroCells z.cells (g - 1)).toList, rfl, ?_, hge, ?_, hle, rfl⟩⟩, .inr ⟨rfl, (Ext.refl w).drew.alloc _⟩⟩
    · have := hnew w.drew (.cells ([v].toArray ++ Builtin.zeroCells z.cells (g - 1)) e)
      rw [show w.heap.size = w.drew.heap.size from rfl, this]
      congr 2
      apply Array.ext'
      simp
    · rw [List.length_append, hzl]
      simp; omega
  · subst h3
    by_cases hroom : n + 1 ≤ c
    · have hrun := run_append_room (P := P) (w := w) t ty e i ht hi b n c arr.toArray h4 ⟨q, 0, none⟩ 1 m [v] (by rw [hsize]; rfl) hnews (by simpa using h1) hroom (by rw [hsize]; simp; omega)
      have hb2 : (w.setRow b (arr.toArray.toList.take (n * i.size) ++ [v] ++ arr.toArray.toList.drop (n * i.size + [v].length)).toArray).heap[b]? = some (.cells (arr.toArray.toList.take (n * i.size) ++ [v] ++ arr.toArray.toList.drop (n * i.size + [v].length)).toArray e (0, 0)) := by
        simp [World.setRow, Array.getElem?_modify, h4]
      rw [hsize, Nat.mul_one] at hrun hb2
      refine ⟨_, _, _, hrun, ⟨by rw [List.length_append, hl]; rfl, .inr ⟨b, _, rfl, hb2, hroom, ?_, h7, ?_⟩⟩, .inl ⟨rfl, rfl, ⟨b, rfl, rfl, rfl, rfl, by simp [World.setRow], fun k hk hne => ?_⟩, hroom⟩⟩
      · simp only [List.length_append, List.length_take, List.length_drop, List.length_cons, List.length_nil]
        omega
      · rw [List.take_append_of_le_length (by simp; omega), List.take_of_length_le (by simp; omega), h8]
      · have hne' : ¬ b = k := fun e => hne (by rw [e])
        simp [World.setRow, Array.getElem?_modify, hne']
    · have hnext := nextslicecap_le (need := n + 1) (old := c) (by omega)
      have hrun := run_append_grow (P := P) (w := w) t ty e i z ht hi hz ⟨b, 0, none⟩ n c xs (by rw [hl, hsize, Nat.mul_one]) (fun j u hj => by
        have hj2 := (List.getElem?_eq_some_iff.1 hj).1
        rw [hadd, cell_of_row w b (0 + j) _ e (0, 0) h4]
        rw [← h8, List.getElem?_take] at hj
        split at hj
        · simpa using hj
        · cases hj) ⟨q, 0, none⟩ 1 m [v] (by rw [hsize]; rfl) hnews (by omega) (by omega) (by
        rw [hby]
        exact Nat.le_trans (Nat.mul_le_mul (Nat.le_trans hnext (show 2 * (n + 1) ≤ 2000002 by omega)) hb) (by decide))
      have hge := grownCap_ge w (n + 1) c e
      have hle := grownCap_le_maxLen w (n + 1) c e (by unfold maxLen; omega)
      generalize grownCap w (n + 1) c e = g at *
      refine ⟨_, _, _, hrun, ⟨by rw [List.length_append, hl]; rfl, .inr ⟨w.heap.size, xs ++ [v] ++ (Builtin.zeroCells z.cells (g - (n + 1))).toList, rfl, ?_, hge, ?_, hle, ?_⟩⟩, .inr ⟨rfl, (Ext.refl w).drew.alloc _⟩⟩
      · have := hnew w.drew (.cells (xs.toArray ++ [v].toArray ++ Builtin.zeroCells z.cells (g - (n + 1))) e)
        rw [show w.heap.size = w.drew.heap.size from rfl, this]
        congr 2
        apply Array.ext'
        simp
      · rw [List.length_append, List.length_append, hzl, hl]
        simp; omega
      · rw [List.take_append_of_le_length (by rw [List.length_append, hl]; simp), List.take_of_length_le (by rw [List.length_append, hl]; simp)]
end Go.Proofs.YtdnioigcgggdbaaGreatDoor
