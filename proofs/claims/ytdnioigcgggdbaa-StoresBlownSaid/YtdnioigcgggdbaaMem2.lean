/-
  Memory as a list of entries: append, make, and bytes of a slice of the call's own. Nothing of the program stands here.
-/
import Derived.Test.YtdnioigcgggdbaaMem
set_option linter.unusedVariables false
namespace Go.Proofs.Ytdnioigcgggdbaa
open Go.RowKit

theorem Kept.imp {f g : Nat → Prop} {w w' : World} (h : Kept f w w') (hg : ∀ b, g b → f b) : Kept g w w' := ⟨h.os, h.tape, h.output, h.size, fun b hb hlt => h.block b (hg b hb) hlt⟩
theorem gives_blk {L : List Ent} {b n : Nat} {cs : List Value} {T : TypeId} (h : blk b cs T ∈ L) (hn : cs.length = n) (hl : n ≤ 1000000) : Gives L fun w => Rd w 1 (some ⟨b, 0, none⟩) n n cs := fun w H =>
  ⟨Nat.le_refl _, by simp only [maxLen]; omega, by omega, (fun h => by cases h), fun _ => ⟨b, 0, rfl, fun j _ => by rw [cell_of_row w b (0 + j) _ T (0, 0) (H.all _ h)]; simp⟩⟩
theorem run_mkR {P : Program} {t e : TypeId} {z : Value} {size bytes : Nat} (ht : P.underlying t = some (.slice e)) (hinfo : (P.info? e).map (fun i => (i.zero, i.size, i.bytes)) = some (some z, size, bytes))
    (n c : Nat) (hnc : n ≤ c) (hb : bytes * c ≤ 281474976710656) (h63 : c ≤ 9223372036854775807) (W : World) :
    (Instr.makeSlice t (.int .i64 (n : Int)) (.int .i64 (c : Int))).run P W = .ok (.slice (some ⟨W.heap.size, 0, none⟩) n c) (W.alloc (.cells (madeCells z.cells (c * size)) e)) := by
  obtain ⟨i, hi, hz, hsize, hby⟩ := info_parts hinfo
  have hb' : (i.bytes : Int) * (c : Int) ≤ 281474976710656 := by
    have h : ((i.bytes * c : Nat) : Int) ≤ 281474976710656 := by rw [hby]; omega
    rwa [Int.natCast_mul] at h
  have hr := run_make (P := P) W t e i z ht hi hz .i64 .i64 n c (by omega) (by omega) hb' (by omega)
  simp only [Int.toNat_natCast, hsize] at hr
  exact hr
theorem Holds.grown {w w' : World} {L L' : List Ent} {e : TypeId} {size : Nat} {v v' : Value} {n n' : Nat} {xs xs' : List Value} (H : Holds w L) (hm : Pull (ownE e size v n xs) L L') {base : Nat} (ho : w'.ownsRow base e size v' n' xs') (hg : w.grownBy w' v.ownBlock)
    (hb : v'.ownBlock = v.ownBlock ∨ v'.ownBlock = some w.heap.size) : Holds w' (ownE e size v' n' xs' :: L') := by
  refine Holds.set (e := ownE e size v n xs) (H.pull hm) rfl ⟨hg.os, hg.tape, hg.output, hg.size, fun b hb2 hlt => hg.block b hlt (fun h => hb2 h.symm)⟩ (own_mono ho (Nat.zero_le _)) fun b hb3 => ?_
  rcases hb with h | h
  · left; show v.ownBlock = some b; rw [← h]; exact hb3
  · right
    have : v'.ownBlock = some b := hb3
    rw [h] at this
    injection this with this
    omega
section
variable {P : Program} {ops : Array Oper} {rest : List Oper} {a : Act} {w : World} {Q : Exit → Act → World → Prop} {L : List Ent}
/-- append onto a slice of the call's own. -/
theorem wpl_app {dst : Option Tmp} {s x : Operand} {t : TypeId} {ty : TypeId} {pos : String} {after : Array Edge} {gd : Option (Nat × Bool)} (H : Holds w L)
    (hw : Region.wanted ⟨dst, .call { callee := .builtin .append, args := #[s, x], argTypes := #[t, t] }, ty, pos, after, gd⟩ (yielded ops a.tmps) = true)
    {A : Option Addr} {n cap : Nat} (hs : a.eval s = .slice A n cap) {A2 : Option Addr} {m c : Nat} (hx : a.eval x = .slice A2 m c) {e : TypeId} {size : Nat} {xs : List Value} {L' : List Ent} (hm : Pull (ownE e size (.slice A n cap) n xs) L L')
    {ys : List Value} (hr : Gives L fun w => Rd w size A2 m c ys) {z : Value} {bytes : Nat} (ht : P.underlying t = some (.slice e)) (hinfo : (P.info? e).map (fun i => (i.zero, i.size, i.bytes)) = some (some z, size, bytes))
    (hzs : z.cells.size = size) (hsz : 0 < size) (h1 : ∀ u ∈ ys, u.oneCell' = true) (h63 : n + m ≤ maxLen) (hbytes : (n + m) * bytes ≤ 140737488355328)
    (h : ∀ A' n' cap' w', Hid (n' = n + m) → Holds w' (ownE e size (.slice A' n' cap') n' (xs ++ ys) :: L') → n' ≤ cap' → cap' ≤ 9223372036854775807 → wpList P ops Q rest (a.put dst (.slice A' n' cap')) w') :
    wpList P ops Q (⟨dst, .call { callee := .builtin .append, args := #[s, x], argTypes := #[t, t] }, ty, pos, after, gd⟩ :: rest) a w := by
  obtain ⟨i, hi, hz, hsize, hby⟩ := info_parts hinfo
  obtain ⟨A', n', cap', w', hrun, h2, h3, h4, h5⟩ := run_append_rd (P := P) 0 t ty e i z size bytes ht hi hz hsize hby hzs hsz (H.all _ hm.mem) (hr w H) h1 h63 hbytes (Nat.zero_le _)
  refine wpList_step fun K hK => ?_
  rw [if_pos hw]
  unfold Oper.wp execOp
  simp only [resolve, invoke, builtin, Sem.run_bind, Sem.run_pure, Result.andThen_ok, List.map_toArray, List.map_cons, List.map_nil, hs, hx, hrun]
  exact hK _ _ (h A' n' cap' w' h2 (H.grown hm h3 h4 h5) (own_le h3).1 (own_le h3).2)
/-- make of a row of values of one cell. -/
theorem wpl_make1 {dst : Option Tmp} {l cp : Operand} {t : TypeId} {ty : TypeId} {pos : String} {after : Array Edge} {gd : Option (Nat × Bool)} (H : Holds w L) (n c : Nat)
    (hw : Region.wanted ⟨dst, .makeSlice t l cp, ty, pos, after, gd⟩ (yielded ops a.tmps) = true) {e : TypeId} {z : Value} {bytes : Nat} (ht : P.underlying t = some (.slice e)) (hinfo : (P.info? e).map (fun i => (i.zero, i.size, i.bytes)) = some (some z, 1, bytes)) (hz1 : z.cells = #[z])
    {N C : Int} (hl : a.eval l = .int .i64 N) (hN : N = (n : Int)) (hc : a.eval cp = .int .i64 C) (hC : C = (c : Int)) (hnc : n ≤ c) (hb : bytes * c ≤ 281474976710656) (h63 : c ≤ 9223372036854775807) (hmx : c ≤ maxLen)
    (h : ∀ b w', Holds w' (ownE e 1 (.slice (some ⟨b, 0, none⟩) n c) n (List.replicate n z) :: L) → wpList P ops Q rest (a.put dst (.slice (some ⟨b, 0, none⟩) n c)) w') :
    wpList P ops Q (⟨dst, .makeSlice t l cp, ty, pos, after, gd⟩ :: rest) a w := by
  subst hN hC
  have hr := run_mkR (P := P) ht hinfo n c hnc hb h63 w
  have hZ : (madeCells z.cells (c * 1)) = (List.replicate c z).toArray := by
    apply Array.ext'
    rw [hz1]
    rw [show (#[z] : Array Value) = (List.replicate 1 z).toArray from rfl]
    simp [madeCells, Nat.mod_one]
    rw [show (List.map (fun _ => z) (List.range c)) = List.replicate c z from by apply List.ext_getElem <;> simp]
  refine wpl_run hw (v := .slice (some ⟨w.heap.size, 0, none⟩) n c) (w' := w.alloc (.cells (List.replicate c z).toArray e)) ?_ (h w.heap.size _ (H.new_own ((Ext.refl w).alloc _) ?_))
  · rw [hZ] at hr
    unfold execOp
    simp only [hl, hc, Sem.run_bind, hr, Result.andThen_ok, Sem.run_pure]
  · refine ⟨by simp, .inr ⟨w.heap.size, c, _, rfl, Nat.le_refl _, heap_alloc_new w _, hnc, hmx, by simp, ?_⟩⟩
    simp [Nat.min_eq_left hnc]
/-- a store into a cell of a slice of the call's own. -/
theorem wpl_storeO {dst : Option Tmp} {T : TypeId} {x y : Operand} {ty : TypeId} {pos : String} {after : Array Edge} {gd : Option (Nat × Bool)} (H : Holds w L)
    (hw : Region.wanted ⟨dst, .store T x y, ty, pos, after, gd⟩ (yielded ops a.tmps) = true) {b j : Nat} (hx : a.eval x = .pointer (some ⟨b, j, none⟩)) {v : Value} (hy : a.eval y = v) (h1 : v.oneCell' = true)
    {e : TypeId} {n n' cap : Nat} {xs : List Value} {L' : List Ent} (hm : Upd (ownE e 1 (.slice (some ⟨b, 0, none⟩) n cap) n' xs) (ownE e 1 (.slice (some ⟨b, 0, none⟩) n cap) n' (xs.set j v)) L L') (hs : SizeIs P T 1) (hj : j < n')
    (h : ∀ w', Holds w' L' → wpList P ops Q rest (a.put dst undef) w') : wpList P ops Q (⟨dst, .store T x y, ty, pos, after, gd⟩ :: rest) a w := by
  have ho : w.ownsRow 0 e 1 (.slice (some ⟨b, 0, none⟩) n cap) n' xs := H.all _ hm.mem
  obtain ⟨hl, h2⟩ := ho
  rcases h2 with ⟨hv, hn⟩ | ⟨g, c, cur, hv, hg, hh, hnc, hcm, hcs, htake⟩
  · cases hv
  have hgc : g = b ∧ c = cap := by
    injection hv with e1 e2 e3
    injection e1 with e1
    injection e1 with e1
    exact ⟨e1.symm, e3.symm⟩
  obtain ⟨rfl, rfl⟩ := hgc
  have hjc : j < cur.size := by omega
  have hcells : v.cells = #[v] := by cases v <;> first | rfl | simp [Value.oneCell'] at h1
  have hcell : (w.cell? ⟨g, j, none⟩).isSome = true := by rw [cell_of_row w g j cur e (0, 0) hh, Array.getElem?_eq_getElem hjc]; rfl
  have hr := run_storeVar_mid (P := P) w g j T #[v] (fun k hk => by
    obtain rfl : k = 0 := by simpa using hk
    exact ⟨hcell, frozen_of_row w g (j + 0) cur e hh⟩) (by unfold SizeIs at hs; simpa using hs) (by simp [h1])
  have he : ∀ A : Addr, storeVar T A v = storeVar T A (.agg #[v]) := fun A => by unfold storeVar; rw [hcells]; rfl
  have hheap := heap_setCell_same w g j cur e v hh
  refine wpl_skip hw (w' := w.setCells g j [v]) ?_ (h _ (H.upd hm rfl ((kept_setCells (b := g) [v] j w (.refl _ w)).imp fun b hb hb2 => hb (by rw [hb2]; rfl)) ?_ fun _ hb => .inl hb))
  · unfold execOp
    simp only [hx, hy, Instr.storeAt, Instr.sureAddr, Sem.run_bind, Sem.run_pure, Result.andThen_ok, he, hr]
  · refine ⟨by simpa using hl, .inr ⟨g, c, _, hv, hg, hheap, hnc, hcm, by simpa using hcs, ?_⟩⟩
    have : (cur.setIfInBounds j v).toList = cur.toList.set j v := by simp
    rw [this, ← htake]
    rw [List.take_set]
end
end Go.Proofs.Ytdnioigcgggdbaa
