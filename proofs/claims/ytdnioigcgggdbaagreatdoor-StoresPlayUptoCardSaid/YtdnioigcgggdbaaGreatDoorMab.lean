/-
  Which types are one cell, and which are rows of cells.
  A block that the run-time has marked: []byte("..").
  append(s, x...) where s is any slice without spare room (as []byte("..")): the result lies in new memory.
  A region that draws its order, over a list of entries: what only reads, and yields the same in every world that holds the entries, is taken first; the operations of F, which wait for all that, may turn the entries. Nothing of the program stands here.
-/
import Derived.Test.YtdnioigcgggdbaaGreatDoorMaa
import Derived.Test.YtdnioigcgggdbaaGreatDoorProg
import Derived.Laws.Append
import Derived.OrdersHeld
namespace Go.Proofs.YtdnioigcgggdbaaGreatDoor
set_option maxRecDepth 100000
def scTab : List Nat := [2, 3, 4, 5, 6, 9, 10, 11, 12, 15, 16, 17, 20, 21, 24, 26, 27, 30, 33, 36, 39, 40, 41, 42, 43, 44, 45, 46, 47, 50, 51, 70, 71, 72, 77, 79, 89, 92, 105, 108, 115, 125, 131, 137, 143, 151, 157, 160, 175, 178, 179, 181, 185, 189, 192, 196, 201, 202, 208, 209, 212, 213, 214, 233, 234, 236, 237, 238, 249, 250, 252, 255, 256]
def agTab : List (Nat × Nat) := [(7, 4), (8, 4), (13, 2), (14, 2), (18, 1), (19, 1), (22, 3), (23, 3), (48, 10), (49, 10), (52, 6), (53, 6), (73, 4), (74, 4), (75, 5), (76, 5), (86, 5), (87, 5), (93, 5), (94, 5), (96, 64), (97, 64), (98, 1), (99, 1), (100, 65), (101, 65), (102, 2), (103, 2), (106, 3), (107, 3), (120, 3), (121, 3), (123, 3), (124, 3), (126, 3), (127, 3), (129, 3), (130, 3), (132, 3), (133, 3), (134, 32), (135, 32), (138, 3), (139, 3), (140, 33), (141, 33), (144, 3), (145, 3), (146, 3), (147, 3), (148, 8), (149, 8), (152, 3), (153, 3), (154, 6), (155, 6), (158, 3), (159, 3), (161, 11), (162, 11), (163, 12), (164, 12), (176, 3), (177, 3), (187, 2), (188, 2), (199, 2), (200, 2), (206, 1), (207, 1), (217, 24), (223, 20), (224, 65), (228, 4), (229, 4), (230, 0), (231, 0), (232, 0), (239, 11), (240, 11), (247, 2), (248, 2), (253, 5), (254, 5), (257, 4), (258, 4)]
theorem sc_all : (scTab.all fun T => scalarB Tryz.prog T && ((Tryz.prog.info? T).map (·.size) == some 1)) = true := by kernel_rfl
theorem ag_all : (agTab.all fun x => aggB Tryz.prog x.1 x.2) = true := by kernel_rfl
theorem sc (T : Nat) (h : scTab.contains T = true) : Scalar Tryz.prog T := List.all_eq_true.1 sc_all T (by simpa using h)
theorem mem_of_lookup {k v : Nat} : ∀ {l : List (Nat × Nat)}, l.lookup k = some v → (k, v) ∈ l
  | [], h => by cases h
  | (a, b) :: l, h => by
    unfold List.lookup at h
    split at h
    · rename_i e; cases h; obtain rfl := beq_iff_eq.1 e; exact List.mem_cons_self
    · exact List.mem_cons_of_mem _ (mem_of_lookup h)
theorem ag (T n : Nat) (h : agTab.lookup T = some n) : AggOf Tryz.prog T n := List.all_eq_true.1 ag_all (T, n) (mem_of_lookup h)
theorem sz_sc (T : Nat) (h : scTab.contains T = true) : SizeIs Tryz.prog T 1 := .of_sc (sc T h)
theorem sz_ag (T n : Nat) (h : agTab.lookup T = some n) : SizeIs Tryz.prog T n := .of_ag (ag T n h)
theorem inf_3 : (Tryz.prog.info? 3).map (fun i => (i.zero, i.size, i.bytes)) = some (some (.int .i64 0), 1, 8) := by kernel_rfl
theorem inf_5 : (Tryz.prog.info? 5).map (fun i => (i.zero, i.size, i.bytes)) = some (some (.int .u8 0), 1, 1) := by kernel_rfl
theorem inf_50 : (Tryz.prog.info? 50).map (fun i => (i.zero, i.size, i.bytes)) = some (some (.slice none 0 0), 1, 24) := by kernel_rfl
theorem inf_97 : (Tryz.prog.info? 97).map (fun i => (i.zero, i.size, i.bytes)) = some (some (.agg #[.int .u8 0, .int .u8 0, .int .u8 0, .int .u8 0, .int .u8 0, .int .u8 0, .int .u8 0, .int .u8 0, .int .u8 0, .int .u8 0, .int .u8 0, .int .u8 0, .int .u8 0, .int .u8 0, .int .u8 0, .int .u8 0, .int .u8 0, .int .u8 0, .int .u8 0, .int .u8 0, .int .u8 0, .int .u8 0, .int .u8 0, .int .u8 0, .int .u8 0, .int .u8 0, .int .u8 0, .int .u8 0, .int .u8 0, .int .u8 0, .int .u8 0, .int .u8 0, .int .u8 0, .int .u8 0, .int .u8 0, .int .u8 0, .int .u8 0, .int .u8 0, .int .u8 0, .int .u8 0, .int .u8 0, .int .u8 0, .int .u8 0, .int .u8 0, .int .u8 0, .int .u8 0, .int .u8 0, .int .u8 0, .int .u8 0, .int .u8 0, .int .u8 0, .int .u8 0, .int .u8 0, .int .u8 0, .int .u8 0, .int .u8 0, .int .u8 0, .int .u8 0, .int .u8 0, .int .u8 0, .int .u8 0, .int .u8 0, .int .u8 0, .int .u8 0]), 64, 64) := by kernel_rfl
end Go.Proofs.YtdnioigcgggdbaaGreatDoor
set_option linter.unusedVariables false
set_option linter.unusedSimpArgs false
namespace Go.Proofs.YtdnioigcgggdbaaGreatDoor
open Go.RowKit

/-- a block known whole, which the run-time has marked behind its last cell. -/
def blkF (b : Nat) (cs : List Value) (T : TypeId) (f : Nat × Nat) : Ent :=
  ⟨true, (· = b), fun w => w.heap[b]? = some (.cells cs.toArray T f),
   fun w w' hk h => by
    have hb : b < w.heap.size := (Array.getElem?_eq_some_iff.1 h).1
    exact (hk.block b rfl hb).trans h,
   fun w h c hc => by obtain rfl : c = b := hc; exact (Array.getElem?_eq_some_iff.1 h).1⟩
theorem gives_blkF {L : List Ent} {b n : Nat} {cs : List Value} {T : TypeId} {f : Nat × Nat} (h : blkF b cs T f ∈ L) (hn : cs.length = n) (hl : n ≤ 1000000) : Gives L fun w => Rd w 1 (some ⟨b, 0, none⟩) n n cs := fun w H =>
  ⟨Nat.le_refl _, by simp only [maxLen]; omega, by omega, (fun h => by cases h), fun _ => ⟨b, 0, rfl, fun j _ => by rw [cell_of_row w b (0 + j) _ T f (H.all _ h)]; simp⟩⟩
theorem run_convB {w : World} {b : Nat} {C : Array Value} {e : TypeId} (h : w.heap[b]? = some (.cells C e (0, 0))) (n c : Nat) :
    (convert 50 50 (.slice (some ⟨b, 0, none⟩) n c)).run Tryz.prog w = .ok (.slice (some ⟨b, 0, none⟩) n c) (w.freeze ⟨b, C.size, none⟩ 1) := by
  have hsh : w.shape? b = some (e, C.size) := by unfold World.shape?; rw [h]
  simp [convert, run_underlying Tryz.underlying50, run_underlying Tryz.underlying5, markStringish, hsh]
theorem Holds.marked {w : World} {L : List Ent} {b : Nat} {cs : List Value} {T : TypeId} (H : Holds w (blk b cs T :: L)) : Holds (w.freeze ⟨b, cs.length, none⟩ 1) (blkF b cs T (cs.length, cs.length + 1) :: L) := by
  have hb : w.heap[b]? = some (.cells cs.toArray T (0, 0)) := H.head
  have hlt := (Array.getElem?_eq_some_iff.1 hb).1
  refine H.set rfl ⟨rfl, rfl, rfl, by simp [World.freeze], fun c hc _ => ?_⟩ ?_ fun x hx => .inl hx
  · have hc' : ¬ b = c := fun h => hc h.symm
    simp [World.freeze, Array.getElem?_modify, hc']
  · show (w.freeze ⟨b, cs.length, none⟩ 1).heap[b]? = _
    simp [World.freeze, Array.getElem?_modify, hb]
theorem wpl_convB {ops : Array Oper} {rest : List Oper} {a : Act} {w : World} {Q : Exit → Act → World → Prop} {dst : Option Tmp} {x : Operand} {ty : TypeId} {pos : String} {after : Array Edge} {gd : Option (Nat × Bool)} {L L' : List Ent} (H : Holds w L)
    (hw : Region.wanted ⟨dst, .convert 50 50 x, ty, pos, after, gd⟩ (yielded ops a.tmps) = true) {b n c : Nat} (hx : a.eval x = .slice (some ⟨b, 0, none⟩) n c) {cs : List Value} {T : TypeId} (hm : Pull (blk b cs T) L L')
    (h : ∀ w', Holds w' (blkF b cs T (cs.length, cs.length + 1) :: L') → wpList Tryz.prog ops Q rest (a.put dst (.slice (some ⟨b, 0, none⟩) n c)) w') : wpList Tryz.prog ops Q (⟨dst, .convert 50 50 x, ty, pos, after, gd⟩ :: rest) a w := by
  have H2 := H.pull hm
  have hb : w.heap[b]? = some (.cells cs.toArray T (0, 0)) := H2.head
  refine wpl_run hw (w' := w.freeze ⟨b, cs.length, none⟩ 1) (v := .slice (some ⟨b, 0, none⟩) n c) ?_ (h _ H2.marked)
  unfold execOp
  simp only [hx, Sem.run_bind, run_convB hb, Sem.run_pure, Result.andThen_ok, List.size_toArray]
end Go.Proofs.YtdnioigcgggdbaaGreatDoor
set_option linter.unusedVariables false
set_option linter.unusedSimpArgs false
namespace Go.Proofs.YtdnioigcgggdbaaGreatDoor
open Go.RowKit

theorem blk_to_own {w : World} {L : List Ent} {b n c : Nat} {cs : List Value} {e : TypeId} (H : Holds w (blk b cs e :: L)) (hc : cs.length = c) (hn : n ≤ c) (hm : c ≤ maxLen) : Holds w (ownE e 1 (.slice (some ⟨b, 0, none⟩) n c) n (cs.take n) :: L) :=
  H.set rfl (.refl _ w) ⟨by rw [List.length_take, hc]; omega, .inr ⟨b, c, _, rfl, Nat.zero_le _, H.head, hn, hm, by simpa using hc, by simp⟩⟩ fun x hx => .inl (by
    have : some b = some x := hx
    injection this with h; exact h.symm)
section
variable {P : Program} {ops : Array Oper} {rest : List Oper} {a : Act} {w : World} {Q : Exit → Act → World → Prop} {L : List Ent} {dst : Option Tmp} {x s : Operand} {ty : TypeId} {pos : String} {after : Array Edge} {gd : Option (Nat × Bool)}
theorem wpl_appF {t : TypeId} (H : Holds w L) (hw : Region.wanted ⟨dst, .call { callee := .builtin .append, args := #[s, x], argTypes := #[t, t] }, ty, pos, after, gd⟩ (yielded ops a.tmps) = true)
    {b n m c : Nat} {A2 : Option Addr} (hs : a.eval s = .slice (some ⟨b, 0, none⟩) n n) (hx : a.eval x = .slice A2 m c) {e : TypeId} {z : Value} {bytes : Nat} (ht : P.underlying t = some (.slice e)) (hinfo : (P.info? e).map (fun i => (i.zero, i.size, i.bytes)) = some (some z, 1, bytes)) (hz1 : z.cells.size = 1)
    {xs ys : List Value} (hold : Gives L fun w => Rd w 1 (some ⟨b, 0, none⟩) n n xs) (hr : Gives L fun w => Rd w 1 A2 m c ys) (hm : 0 < m) (hn : 0 < n) (h6 : n + m ≤ 1000000) (hb : bytes ≤ 1000000)
    (h : ∀ b' c' w', n + m ≤ c' → Holds w' (ownE e 1 (.slice (some ⟨b', 0, none⟩) (n + m) c') (n + m) (xs ++ ys) :: L) → wpList P ops Q rest (a.put dst (.slice (some ⟨b', 0, none⟩) (n + m) c')) w') :
    wpList P ops Q (⟨dst, .call { callee := .builtin .append, args := #[s, x], argTypes := #[t, t] }, ty, pos, after, gd⟩ :: rest) a w := by
  obtain ⟨i, hi, hz, hsize, hby⟩ := info_parts hinfo
  have r1 := hold w H
  have r2 := hr w H
  obtain ⟨b2, o2, e2, hc2⟩ := r2.at_ hm
  subst e2
  obtain ⟨b1, o1, e1, hc1⟩ := r1.at_ hn
  injection e1 with e1
  injection e1 with e1 e3
  subst e1 e3
  have hl1 := r1.len
  have hl2 := r2.len
  have hadd : ∀ (b o j : Nat), (⟨b, o, none⟩ : Addr).add j = ⟨b, o + j, none⟩ := fun b o j => by unfold Addr.add; split <;> simp_all
  have hnext := nextslicecap_le (need := n + m) (old := n) (by omega)
  have hrun := run_append_grow (P := P) (w := w) t ty e i z ht hi hz ⟨b, 0, none⟩ n n xs (by rw [hl1, hsize]) (fun j v hj => by
      rw [hadd, hc1 j (by rw [← hl1]; exact (List.getElem?_eq_some_iff.1 hj).1), hj]) ⟨b2, o2, none⟩ m c ys (by rw [hl2, hsize]) (fun j v hj => by
      rw [hadd, hc2 j (by rw [← hl2]; exact (List.getElem?_eq_some_iff.1 hj).1), hj]) (by omega) (by omega) (by
      rw [hby]
      exact Nat.le_trans (Nat.mul_le_mul (Nat.le_trans hnext (show 2 * (n + m) ≤ 2000000 by omega)) hb) (by decide))
  have hge := grownCap_ge w (n + m) n e
  have hle := grownCap_le_maxLen w (n + m) n e (by unfold maxLen; omega)
  generalize grownCap w (n + m) n e = g at *
  have e0 : xs.toArray ++ ys.toArray ++ Builtin.zeroCells z.cells (g - (n + m)) = (xs ++ ys ++ (Builtin.zeroCells z.cells (g - (n + m))).toList).toArray := by
    apply Array.ext'
    simp
  rw [e0] at hrun
  have hlen : (xs ++ ys ++ (Builtin.zeroCells z.cells (g - (n + m))).toList).length = g := by
    rw [List.length_append, List.length_append, hl1, hl2, Array.length_toList, size_zeroCells, hz1]
    omega
  have H2 := blk_to_own (n := n + m) (H.drew.alloc (xs ++ ys ++ (Builtin.zeroCells z.cells (g - (n + m))).toList) e) hlen hge hle
  rw [List.take_append_of_le_length (by rw [List.length_append, hl1, hl2]; omega), List.take_of_length_le (by rw [List.length_append, hl1, hl2]; omega)] at H2
  refine wpl_run hw (v := .slice (some ⟨w.heap.size, 0, none⟩) (n + m) g) (w' := w.drew.alloc (.cells (xs ++ ys ++ (Builtin.zeroCells z.cells (g - (n + m))).toList).toArray e)) ?_ (h _ _ _ hge H2)
  unfold execOp
  simp only [resolve, invoke, builtin, Sem.run_bind, Sem.run_pure, Result.andThen_ok, List.map_toArray, List.map_cons, List.map_nil, hs, hx, hrun]
end
end Go.Proofs.YtdnioigcgggdbaaGreatDoor
set_option linter.unusedVariables false
namespace Go.Proofs.YtdnioigcgggdbaaGreatDoor
open Go.RowKit

section
variable {P : Program} {ops : Array Oper} {Q : Exit → Act → World → Prop} {md : Region.Mode} {L : List Ent} {F : List Nat}

/-- does f wait for i? -/
def reach (md : Region.Mode) (ops : Array Oper) : Nat → Nat → Nat → Bool
  | 0, _, _ => false
  | n + 1, f, i => ((ops[f]?).map fun o => o.after.any fun e => Region.binds md e && (e.on == i || reach md ops n e.on i)).getD false
/-- what is listed has all that it waits for listed. -/
def Closed (md : Region.Mode) (ops : Array Oper) (listed : Array Bool) : Prop := ∀ j o, ops[j]? = some o → listed.getD j true = true → ∀ e ∈ o.after, Region.binds md e = true → listed.getD e.on false = true
def closedB (md : Region.Mode) (ops : Array Oper) (listed : Array Bool) : Bool := (List.range ops.size).all fun j => ((ops[j]?).map fun o => !listed.getD j true || o.after.all fun e => !Region.binds md e || listed.getD e.on false).getD true
theorem closedB_spec {listed : Array Bool} (h : closedB md ops listed = true) : Closed md ops listed := fun j o ho hl e he hb => by
  have hlt : j < ops.size := (Array.getElem?_eq_some_iff.1 ho).1
  have := List.all_eq_true.1 h j (List.mem_range.2 hlt)
  rw [ho] at this
  simp only [Option.map_some, Option.getD_some, hl, Bool.not_true, Bool.false_or] at this
  have h2 := (Array.all_eq_true_iff_forall_mem.1 this) e he
  rw [hb] at h2
  simpa using h2
theorem Closed.step {listed : Array Bool} (h : Closed md ops listed) {j : Nat} (hj : j ∈ Region.ready md ops listed) : Closed md ops (listed.setIfInBounds j true) := fun k o ho hl e he hb => by
  by_cases hk : j = k
  · subst hk
    obtain ⟨-, o', ho', hall⟩ := mem_ready.1 hj
    rw [ho] at ho'
    cases ho'
    exact getD_set_true (hall e he hb)
  · rw [getD_set_ne true hk] at hl
    exact getD_set_true (h k o ho hl e he hb)
theorem getD_any {listed : Array Bool} {i : Nat} (h : listed.getD i false = true) : listed.getD i true = true := by
  rcases Nat.lt_or_ge i listed.size with hlt | hge
  · simp [hlt] at h ⊢; exact h
  · simp [Array.getElem?_eq_none hge]
theorem reach_listed : ∀ {n : Nat} {f i : Nat} {listed : Array Bool}, Closed md ops listed → reach md ops n f i = true → listed.getD f true = true → listed.getD i true = true
  | 0, _, _, _, _, h, _ => by simp [reach] at h
  | n + 1, f, i, listed, hc, h, hf => by
    unfold reach at h
    cases ho : ops[f]? with
    | none => rw [ho] at h; cases h
    | some o =>
      rw [ho] at h
      simp only [Option.map_some, Option.getD_some] at h
      obtain ⟨x, hx, h2⟩ := Array.any_eq_true.1 h
      simp only [Bool.and_eq_true, Bool.or_eq_true, beq_iff_eq] at h2
      have h3 := hc f o ho hf _ (Array.getElem_mem hx) h2.1
      rcases h2.2 with h4 | h4
      · rw [h4] at h3; exact getD_any h3
      · exact reach_listed hc h4 (getD_any h3)

/-- as long as none of F has come up the entries hold. -/
def SF (F : List Nat) (L : List Ent) (listed : Array Bool) (w : World) : Prop := (∀ f ∈ F, listed.getD f true = false) → Holds w L
def wpAnyJ (P : Program) (md : Region.Mode) (ops : Array Oper) (Q : Exit → Act → World → Prop) (F : List Nat) (L : List Ent) : Nat → Array Bool → Act → World → Prop
  | 0, listed, a, w => Region.ready md ops listed = [] ∧ Q .normal a w
  | fuel + 1, listed, a, w =>
    (Region.ready md ops listed = [] → Q .normal a w) ∧
    ∀ i ∈ Region.ready md ops listed, wpOp P ops Q i (fun a' w' => SF F L (listed.setIfInBounds i true) w' ∧ wpAnyJ P md ops Q F L fuel (listed.setIfInBounds i true) a' w') a w
theorem wpAny_of_J : ∀ (fuel : Nat) (listed : Array Bool) (a : Act) (w : World), wpAnyJ P md ops Q F L fuel listed a w → wpAny P md ops Q fuel listed a w
  | 0, _, _, _, h => h
  | fuel + 1, _, _, _, h => ⟨h.1, fun i hi => wpOp_mono (fun a' w' h' => wpAny_of_J fuel _ a' w' h'.2) (h.2 i hi)⟩
theorem SF.mono {listed : Array Bool} {w : World} {i : Nat} (h : SF F L listed w) (hu : listed.getD i true = false) : SF F L (listed.setIfInBounds i true) w := fun hf => h fun f hfF => by
  have := hf f hfF
  by_cases hi : i = f
  · subst hi; exact hu
  · rwa [getD_set_ne true hi] at this
theorem wpAnyJ_first {i : Nat} {oi : Oper} {v : Value} {n : Nat} (hi : ops[i]? = some oi) (hsel : ∀ (j : Nat) (o : Oper) cs b, ops[j]? = some o → o.op ≠ .select cs b)
    (hQ : ∀ c a w, Q (.panic c) (a.put oi.dst v) w → Q (.panic c) a w) (hiF : i ∉ F) (hF : ∀ f ∈ F, reach md ops n f i = true) :
    ∀ (fuel : Nat) (listed : Array Bool) (a : Act) (w : World),
      (∀ j oj, ops[j]? = some oj → j ≠ i → listed.getD j true = false → (∀ e ∈ oj.after, Region.binds md e = true → e.on ≠ i) → oi.apart ops oj = true) →
      i ∈ Region.ready md ops listed → YieldsIf P ops (fun w => Holds w L) oi v a → Holds w L → Closed md ops listed →
      wpAnyJ P md ops Q F L fuel (listed.setIfInBounds i true) (a.put oi.dst v) w → wpAnyJ P md ops Q F L (fuel + 1) listed a w := by
  intro fuel
  induction fuel with
  | zero =>
    intro listed a w _ hr hy hS hc H
    refine ⟨fun h => (by rw [h] at hr; cases hr), fun j hj => ?_⟩
    by_cases hji : j = i
    · subst hji; exact hy.wpOp hi hS ⟨fun _ => hS, H⟩
    · have := ready_mono hj hji
      rw [H.1] at this
      cases this
  | succ fuel ih =>
    intro listed a w hfree hr hy hS hc H
    refine ⟨fun h => (by rw [h] at hr; cases hr), fun j hj => ?_⟩
    by_cases hji : j = i
    · subst hji; exact hy.wpOp hi hS ⟨fun _ => hS, H⟩
    · have h1 := H.2 j (ready_mono hj hji)
      obtain ⟨hjun, oj, hoj, hall⟩ := mem_ready.1 hj
      have h0 := (mem_ready.1 hr).1
      have hnot : ∀ e ∈ oj.after, Region.binds md e = true → e.on ≠ i := fun e he hb heq => by
        have h2 := hall e he hb
        rw [heq] at h2
        have := getD_any h2
        rw [h0] at this; cases this
      have hcj := hc.step hj
      have hun : (listed.setIfInBounds j true).getD i true = false := by rw [getD_set_ne true hji]; exact h0
      have hFun : ∀ f ∈ F, (listed.setIfInBounds j true).getD f true = false := fun f hf => by
        cases hv : (listed.setIfInBounds j true).getD f true with
        | false => rfl
        | true => have := reach_listed hcj (hF f hf) hv; rw [hun] at this; cases this
      have h2 := wpOp_putIf hoj (hfree j oj hoj hji hjun hnot) (fun cs b => hsel i oi cs b hi) (fun cs b => hsel j oj cs b hoj) hQ hy h1
      have hfree' : ∀ k ok, ops[k]? = some ok → k ≠ i → (listed.setIfInBounds j true).getD k true = false →
          (∀ e ∈ ok.after, Region.binds md e = true → e.on ≠ i) → oi.apart ops ok = true := fun k ok hk hki hun2 hno => by
        refine hfree k ok hk hki ?_ hno
        by_cases hjk : j = k
        · subst hjk; exact hjun
        · rw [getD_set_ne true hjk] at hun2; exact hun2
      refine wpOp_mono (fun a' w' h3 => ?_) h2
      obtain ⟨h4, h5, h6⟩ := h3
      have hH : Holds w' L := h5 fun f hf => by
        rw [Array.setIfInBounds_comm _ _ (fun h => hji h.symm)]
        rw [getD_set_ne true (fun h => hiF (by rw [h]; exact hf))]
        exact hFun f hf
      refine ⟨fun _ => hH, ih (listed.setIfInBounds j true) a' w' hfree' (ready_mono hr (Ne.symm hji)) h4 hH hcj ?_⟩
      rw [Array.setIfInBounds_comm _ _ hji]
      exact h6

theorem wpAnyJ_firstP {i : Nat} {oi : Oper} {v : Value} (hi : ops[i]? = some oi) (hsel : ∀ (j : Nat) (o : Oper) cs b, ops[j]? = some o → o.op ≠ .select cs b)
    (hQ : ∀ c a w, Q (.panic c) (a.put oi.dst v) w → Q (.panic c) a w) (hiF : i ∉ F) :
    ∀ (fuel : Nat) (listed : Array Bool) (a : Act) (w : World),
      (∀ j oj, ops[j]? = some oj → j ≠ i → listed.getD j true = false → (∀ e ∈ oj.after, Region.binds md e = true → e.on ≠ i) → oi.apart ops oj = true) →
      i ∈ Region.ready md ops listed → YieldsIf P ops (fun _ => True) oi v a → SF F L listed w →
      wpAnyJ P md ops Q F L fuel (listed.setIfInBounds i true) (a.put oi.dst v) w → wpAnyJ P md ops Q F L (fuel + 1) listed a w := by
  intro fuel
  induction fuel with
  | zero =>
    intro listed a w _ hr hy hS H
    refine ⟨fun h => (by rw [h] at hr; cases hr), fun j hj => ?_⟩
    by_cases hji : j = i
    · subst hji; exact hy.wpOp hi trivial ⟨hS.mono (mem_ready.1 hj).1, H⟩
    · have := ready_mono hj hji
      rw [H.1] at this
      cases this
  | succ fuel ih =>
    intro listed a w hfree hr hy hS H
    refine ⟨fun h => (by rw [h] at hr; cases hr), fun j hj => ?_⟩
    by_cases hji : j = i
    · subst hji; exact hy.wpOp hi trivial ⟨hS.mono (mem_ready.1 hj).1, H⟩
    · have h1 := H.2 j (ready_mono hj hji)
      obtain ⟨hjun, oj, hoj, hall⟩ := mem_ready.1 hj
      have h0 := (mem_ready.1 hr).1
      have hnot : ∀ e ∈ oj.after, Region.binds md e = true → e.on ≠ i := fun e he hb heq => by
        have h2 := hall e he hb
        rw [heq] at h2
        have := getD_any h2
        rw [h0] at this; cases this
      have h2 := wpOp_putIf hoj (hfree j oj hoj hji hjun hnot) (fun cs b => hsel i oi cs b hi) (fun cs b => hsel j oj cs b hoj) hQ hy h1
      have hfree' : ∀ k ok, ops[k]? = some ok → k ≠ i → (listed.setIfInBounds j true).getD k true = false →
          (∀ e ∈ ok.after, Region.binds md e = true → e.on ≠ i) → oi.apart ops ok = true := fun k ok hk hki hun2 hno => by
        refine hfree k ok hk hki ?_ hno
        by_cases hjk : j = k
        · subst hjk; exact hjun
        · rw [getD_set_ne true hjk] at hun2; exact hun2
      refine wpOp_mono (fun a' w' h3 => ?_) h2
      obtain ⟨h4, h5, h6⟩ := h3
      have hH : SF F L (listed.setIfInBounds j true) w' := fun hFu => h5 fun f hf => by
        rw [Array.setIfInBounds_comm _ _ (fun h => hji h.symm)]
        rw [getD_set_ne true (fun h => hiF (by rw [h]; exact hf))]
        exact hFu f hf
      refine ⟨hH, ih (listed.setIfInBounds j true) a' w' hfree' (ready_mono hr (Ne.symm hji)) h4 hH ?_⟩
      rw [Array.setIfInBounds_comm _ _ hji]
      exact h6

/-! ### the moves of a walk -/
/-- take number i: it yields v in whatever world. -/
theorem anyJ_takeP (i : Nat) {oi : Oper} {v : Value} {fuel : Nat} {listed : Array Bool} {a : Act} {w : World} (hi : ops[i]? = some oi)
    (hs : Region.noSelect ops = true) (hf : Region.free md ops listed i = true) (hr : (Region.ready md ops listed).contains i = true) (hF : F.contains i = false)
    (hQ : ∀ c a w, Q (.panic c) (a.put oi.dst v) w → Q (.panic c) a w) (hy : YieldsIf P ops (fun _ => True) oi v a) (H : (F.any fun f => listed.getD f true) = true ∨ Holds w L)
    (h : wpAnyJ P md ops Q F L fuel (listed.setIfInBounds i true) (a.put oi.dst v) w) : wpAnyJ P md ops Q F L (fuel + 1) listed a w := by
  refine wpAnyJ_firstP hi (Region.noSelect_spec hs) hQ (by simpa using hF) fuel listed a w (Region.free_spec hi hf) (by simpa using hr) hy (fun hu => ?_) h
  rcases H with H | H
  · obtain ⟨f, hf, h2⟩ := List.any_eq_true.1 H
    rw [hu f hf] at h2; cases h2
  · exact H
theorem wp_region_J {id : Nat} {a : Act} {w : World} (F : List Nat) (H : Holds w L) (hm : P.follows .mixedOrders = true)
    (h : ∀ w', Holds w' L → wpAnyJ P .any ops Q F L ops.size (Array.replicate ops.size false) a w') : (Code.region id ops true).wp P Q a w :=
  wp_region_any hm (wpAny_of_J _ _ _ _ (h _ H.drew))
theorem anyJ_done {listed : Array Bool} {a : Act} {w : World} (hr : Region.ready md ops listed = []) (h : Q .normal a w) : ∀ fuel, wpAnyJ P md ops Q F L fuel listed a w
  | 0 => ⟨hr, h⟩
  | _ + 1 => ⟨fun _ => h, by rw [hr]; simp⟩
/-- take number i: it yields v in every world that holds the entries. -/
theorem anyJ_take (i : Nat) {oi : Oper} {v : Value} {fuel : Nat} {listed : Array Bool} {a : Act} {w : World} (hi : ops[i]? = some oi)
    (hs : Region.noSelect ops = true) (hf : Region.free md ops listed i = true) (hr : (Region.ready md ops listed).contains i = true) (hc : closedB md ops listed = true) (hF : (!F.contains i && F.all fun f => reach md ops 40 f i) = true)
    (hQ : ∀ c a w, Q (.panic c) (a.put oi.dst v) w → Q (.panic c) a w) (hy : YieldsIf P ops (fun w => Holds w L) oi v a) (H : Holds w L)
    (h : wpAnyJ P md ops Q F L fuel (listed.setIfInBounds i true) (a.put oi.dst v) w) : wpAnyJ P md ops Q F L (fuel + 1) listed a w := by
  rw [Bool.and_eq_true] at hF
  exact wpAnyJ_first hi (Region.noSelect_spec hs) hQ (by simpa using hF.1) (fun f hf => List.all_eq_true.1 hF.2 f hf) fuel listed a w (Region.free_spec hi hf) (by simpa using hr) hy H (closedB_spec hc) h
/-- number i alone may come up: it is carried out. -/
theorem anyJ_one (i : Nat) {o : Oper} {fuel : Nat} {listed : Array Bool} {a : Act} {w : World} (hr : Region.ready md ops listed = [i]) (hi : ops[i]? = some o) (hw : Region.wanted o (yielded ops a.tmps) = true)
    (h : ∀ K : Act → World → Prop, Hid (∀ a' w', (F.contains i = true ∨ Holds w' L) → wpAnyJ P md ops Q F L fuel (listed.setIfInBounds i true) a' w' → K a' w') → Oper.wp P o a w K Q) : wpAnyJ P md ops Q F L (fuel + 1) listed a w := by
  refine ⟨fun h0 => (by rw [h0] at hr; cases hr), fun j hj => ?_⟩
  have hj0 := hj
  rw [hr] at hj
  obtain rfl := List.mem_singleton.1 hj
  unfold wpOp
  simp only [hi, hw, if_true]
  refine .inl (h _ fun a' w' hS hJ => ⟨fun hF => ?_, hJ⟩)
  rcases hS with hS | hS
  · have hlt : j < listed.size := by
      have h1 := (mem_ready.1 hj0).1
      rcases Nat.lt_or_ge j listed.size with h | h
      · exact h
      · simp [Array.getElem?_eq_none h] at h1
    have := hF j (by simpa using hS)
    simp [hlt] at this
  · exact hS
/-- number i alone may come up, and is not wanted. -/
theorem anyJ_skip (i : Nat) {o : Oper} {fuel : Nat} {listed : Array Bool} {a : Act} {w : World} (hr : Region.ready md ops listed = [i]) (hi : ops[i]? = some o) (hw : Region.wanted o (yielded ops a.tmps) = false) (hS : Holds w L)
    (h : wpAnyJ P md ops Q F L fuel (listed.setIfInBounds i true) (a.put o.dst undef) w) : wpAnyJ P md ops Q F L (fuel + 1) listed a w := by
  refine ⟨fun h0 => (by rw [h0] at hr; cases hr), fun j hj => ?_⟩
  rw [hr] at hj
  obtain rfl := List.mem_singleton.1 hj
  unfold wpOp
  simp only [hi, hw, Bool.false_eq_true, if_false]
  exact ⟨fun _ => hS, h⟩

/-! ### what yields -/
theorem yields_pure {o : Oper} {v : Value} {a : Act} (hw : Region.wanted o (yielded ops a.tmps) = true) (h : ∀ w, (execOp a.eval o).run P w = .ok (.value v) w) : YieldsIf P ops (fun _ => True) o v a := .inl ⟨hw, fun w _ => h w⟩
theorem yields_skip {S : World → Prop} {o : Oper} {a : Act} (hw : Region.wanted o (yielded ops a.tmps) = false) : YieldsIf P ops S o undef a := .inr ⟨hw, rfl⟩
section
variable {a : Act} {dst : Option Tmp} {T : TypeId} {x : Operand} {ty : TypeId} {pos : String} {after : Array Edge} {gd : Option (Nat × Bool)}
theorem yields_load (hw : Region.wanted ⟨dst, .load T x, ty, pos, after, gd⟩ (yielded ops a.tmps) = true) {b k : Nat} (hx : a.eval x = .pointer (some ⟨b, k, none⟩)) {cs : List Value} {T' : TypeId} (hm : blk b cs T' ∈ L)
    (hs : Scalar P T) {v : Value} (hv : cs[k]? = some v) : YieldsIf P ops (fun w => Holds w L) ⟨dst, .load T x, ty, pos, after, gd⟩ v a := .inl ⟨hw, fun w H => by
  have hc : w.cell? ⟨b, k, none⟩ = some v := by rw [cell_of_row w b k _ T' (0, 0) (H.all _ hm)]; simpa using hv
  unfold execOp
  simp [hx, Instr.loadAt, Instr.sureAddr, loadVar, run_isAgg_no hs, Sem.run_bind, hc, load, Sem.run]⟩
theorem yields_loadA (hw : Region.wanted ⟨dst, .load T x, ty, pos, after, gd⟩ (yielded ops a.tmps) = true) {b k : Nat} (hx : a.eval x = .pointer (some ⟨b, k, none⟩)) {cs : List Value} {T' : TypeId} (hm : blk b cs T' ∈ L)
    {n : Nat} (hs : AggOf P T n) {vs : List Value} (hv : (cs.drop k).take n = vs) (hl : vs.length = n) : YieldsIf P ops (fun w => Holds w L) ⟨dst, .load T x, ty, pos, after, gd⟩ (.agg vs.toArray) a := .inl ⟨hw, fun w H => by
  obtain ⟨⟨d, hd, hr⟩, hi⟩ := aggB_spec hs
  have hc : w.rangeAt b k vs := fun j v hj => by
    rw [cell_of_row w b (k + j) _ T' (0, 0) (H.all _ hm)]
    rw [← hv, List.getElem?_take] at hj
    split at hj
    · rw [List.getElem?_drop] at hj; simpa using hj
    · cases hj
  unfold execOp
  simp only [hx, Sem.run_bind, run_loadAt_mid w b k T vs d hc hd hr (by rw [hi, hl]), Sem.run_pure, Result.andThen_ok]⟩
theorem yields_loadB (hw : Region.wanted ⟨dst, .load T x, ty, pos, after, gd⟩ (yielded ops a.tmps) = true) {b o j : Nat} (hx : a.eval x = .pointer (some ⟨b, o + j, none⟩)) {n cap : Nat} {l : List UInt8}
    (hm : Gives L fun w => Rd w 1 (some ⟨b, o, none⟩) n cap (bvs l)) (hs : Scalar P T) (hj : j < n) : YieldsIf P ops (fun w => Holds w L) ⟨dst, .load T x, ty, pos, after, gd⟩ (.int .u8 ((l[j]?.getD 0).toNat : Int)) a := .inl ⟨hw, fun w H => by
  obtain ⟨b', o', e, hc⟩ := (hm w H).byte hj
  injection e with e
  injection e with e1 e2
  subst e1 e2
  unfold execOp
  simp [hx, Instr.loadAt, Instr.sureAddr, loadVar, run_isAgg_no hs, Sem.run_bind, hc, load, Sem.run]⟩
theorem yields_loadB0 (hw : Region.wanted ⟨dst, .load T x, ty, pos, after, gd⟩ (yielded ops a.tmps) = true) {b j : Nat} (hx : a.eval x = .pointer (some ⟨b, j, none⟩)) {n cap : Nat} {l : List UInt8}
    (hm : Gives L fun w => Rd w 1 (some ⟨b, 0, none⟩) n cap (bvs l)) (hs : Scalar P T) (hj : j < n) : YieldsIf P ops (fun w => Holds w L) ⟨dst, .load T x, ty, pos, after, gd⟩ (.int .u8 ((l[j]?.getD 0).toNat : Int)) a :=
  yields_loadB (o := 0) hw (by rw [Nat.zero_add]; exact hx) hm hs hj
end

/-! ### single operations -/
section
variable {a : Act} {w : World} {K : Act → World → Prop}
theorem opw_run {o : Oper} {w' : World} {v : Value} (hr : (execOp a.eval o).run P w = .ok (.value v) w') (h : K (a.put o.dst v) w') : Oper.wp P o a w K Q := by
  unfold Oper.wp; rw [hr]; exact h
theorem opw_skip {o : Oper} {w' : World} (hr : (execOp a.eval o).run P w = .ok .skip w') (h : K (a.put o.dst undef) w') : Oper.wp P o a w K Q := by
  unfold Oper.wp; rw [hr]; exact h
theorem opw_store {dst : Option Tmp} {T : TypeId} {x y : Operand} {ty : TypeId} {pos : String} {after : Array Edge} {gd : Option (Nat × Bool)} {L L' : List Ent} (H : Holds w L)
    {b k : Nat} (hx : a.eval x = .pointer (some ⟨b, k, none⟩)) {vs : List Value} (hy : (a.eval y).cells = vs.toArray)
    {cs : List Value} {T' : TypeId} (hm : Upd (blk b cs T') (blk b (setL cs k vs) T') L L') (hs : SizeIs P T vs.length) (h1 : vs.all (·.oneCell') = true) (hk : k + vs.length ≤ cs.length)
    (h : ∀ w', Holds w' L' → K (a.put dst undef) w') : Oper.wp P ⟨dst, .store T x y, ty, pos, after, gd⟩ a w K Q := by
  have hb := H.all _ hm.mem
  refine opw_skip (w' := w.setCells b k vs) ?_ (h _ (H.store hm))
  have ht : w.there b k vs.toArray.size := fun j hj => by
    simp only [List.size_toArray] at hj
    refine ⟨?_, frozen_of_row w b (k + j) _ T' hb⟩
    rw [cell_of_row w b (k + j) _ T' (0, 0) hb]
    simp; omega
  have hr := run_storeVar_mid (P := P) w b k T vs.toArray ht (by unfold SizeIs at hs; simpa using hs) (by simpa using h1)
  have he : ∀ A : Addr, storeVar T A (a.eval y) = storeVar T A (.agg vs.toArray) := fun A => by unfold storeVar; rw [hy]; rfl
  unfold execOp
  simp only [hx, Instr.storeAt, Instr.sureAddr, Sem.run_bind, Sem.run_pure, Result.andThen_ok, he, hr]
theorem opw_store1 {dst : Option Tmp} {T : TypeId} {x y : Operand} {ty : TypeId} {pos : String} {after : Array Edge} {gd : Option (Nat × Bool)} {L L' : List Ent} (H : Holds w L)
    {b k : Nat} (hx : a.eval x = .pointer (some ⟨b, k, none⟩)) {v : Value} (hy : a.eval y = v) (h1 : v.oneCell' = true)
    {cs : List Value} {T' : TypeId} (hm : Upd (blk b cs T') (blk b (setL cs k [v]) T') L L') (hs : SizeIs P T 1) (hk : k + 1 ≤ cs.length)
    (h : ∀ w', Holds w' L' → K (a.put dst undef) w') : Oper.wp P ⟨dst, .store T x y, ty, pos, after, gd⟩ a w K Q :=
  opw_store H hx (vs := [v]) (by rw [hy]; cases v <;> first | rfl | simp [Value.oneCell'] at h1) hm hs (by simp [h1]) hk h
theorem opw_app {dst : Option Tmp} {s x : Operand} {t : TypeId} {ty : TypeId} {pos : String} {after : Array Edge} {gd : Option (Nat × Bool)} {L L' : List Ent} (H : Holds w L)
    {A : Option Addr} {n cap : Nat} (hs : a.eval s = .slice A n cap) {A2 : Option Addr} {m c : Nat} (hx : a.eval x = .slice A2 m c) {e : TypeId} {size : Nat} {xs : List Value} (hm : Pull (ownE e size (.slice A n cap) n xs) L L')
    {ys : List Value} (hr : Gives L fun w => Rd w size A2 m c ys) {z : Value} {bytes : Nat} (ht : P.underlying t = some (.slice e)) (hinfo : (P.info? e).map (fun i => (i.zero, i.size, i.bytes)) = some (some z, size, bytes))
    (hzs : z.cells.size = size) (hsz : 0 < size) (h1 : ∀ u ∈ ys, u.oneCell' = true) (h63 : n + m ≤ maxLen) (hbytes : (n + m) * bytes ≤ 140737488355328)
    (h : ∀ A' n' cap' w', Hid (n' = n + m) → Holds w' (ownE e size (.slice A' n' cap') n' (xs ++ ys) :: L') → n' ≤ cap' → cap' ≤ 9223372036854775807 → K (a.put dst (.slice A' n' cap')) w') :
    Oper.wp P ⟨dst, .call { callee := .builtin .append, args := #[s, x], argTypes := #[t, t] }, ty, pos, after, gd⟩ a w K Q := by
  obtain ⟨i, hi, hz, hsize, hby⟩ := info_parts hinfo
  obtain ⟨A', n', cap', w', hrun, h2, h3, h4, h5⟩ := run_append_rd (P := P) 0 t ty e i z size bytes ht hi hz hsize hby hzs hsz (H.all _ hm.mem) (hr w H) h1 h63 hbytes (Nat.zero_le _)
  unfold Oper.wp execOp
  simp only [resolve, invoke, builtin, Sem.run_bind, Sem.run_pure, Result.andThen_ok, List.map_toArray, List.map_cons, List.map_nil, hs, hx, hrun]
  exact h A' n' cap' w' h2 (H.grown hm h3 h4 h5) (own_le h3).1 (own_le h3).2
end
end
end Go.Proofs.YtdnioigcgggdbaaGreatDoor
