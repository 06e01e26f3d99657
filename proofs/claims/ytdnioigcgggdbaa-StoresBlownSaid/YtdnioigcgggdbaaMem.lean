/-
  Memory as a list of what is known of it: each entry says something of the world, and names the blocks on which that hangs. Nothing of the program stands here.
-/
import Derived.Test.YtdnioigcgggdbaaLib
import Derived.Deep.MidRow
set_option linter.unusedVariables false
namespace Go.Proofs.Ytdnioigcgggdbaa
open Go.RowKit

theorem mH {α : Type} {a : α} {l : List α} : a ∈ a :: l := List.mem_cons_self
theorem mT {α : Type} {a b : α} {l : List α} (h : a ∈ l) : a ∈ b :: l := List.mem_cons_of_mem b h
/-- On the blocks of f, and beside the heap, w' is as w. -/
structure Kept (f : Nat → Prop) (w w' : World) : Prop where
  os : w'.os = w.os
  tape : w'.tape = w.tape
  output : w'.output = w.output
  size : w.heap.size ≤ w'.heap.size
  block : ∀ b, f b → b < w.heap.size → w'.heap[b]? = w.heap[b]?
theorem Kept.refl (f : Nat → Prop) (w : World) : Kept f w w := ⟨rfl, rfl, rfl, Nat.le_refl _, fun _ _ _ => rfl⟩
theorem Kept.of_ext {f : Nat → Prop} {w w' : World} (h : Ext w w') : Kept f w w' := ⟨h.os, h.tape, h.output, h.size, fun b _ hb => h.block b hb⟩

structure Ent where
  own : Bool
  foot : Nat → Prop
  says : World → Prop
  keep : ∀ w w', Kept foot w w' → says w → says w'
  inb : ∀ w, says w → ∀ b, foot b → b < w.heap.size
def Ent.apart (x y : Ent) : Prop := (x.own = false ∧ y.own = false) ∨ ∀ b, x.foot b → ¬ y.foot b
theorem Ent.apart_symm {x y : Ent} (h : x.apart y) : y.apart x := by
  rcases h with ⟨a, b⟩ | h
  · exact .inl ⟨b, a⟩
  · exact .inr fun b hy hx => h b hx hy
structure Holds (w : World) (L : List Ent) : Prop where
  all : ∀ e ∈ L, e.says w
  pw : L.Pairwise Ent.apart

section
variable {w w' : World} {L L' : List Ent} {e e' : Ent}
theorem Holds.kept (h : Holds w L) (hk : ∀ e ∈ L, Kept e.foot w w') : Holds w' L := ⟨fun e he => e.keep w w' (hk e he) (h.all e he), h.pw⟩
theorem Holds.ext (h : Holds w L) (hx : Ext w w') : Holds w' L := h.kept fun _ _ => .of_ext hx
theorem Holds.drew (h : Holds w L) : Holds w.drew L := h.ext (Ext.refl w).drew
theorem Holds.drewN (h : Holds w L) (n : Nat) : Holds (w.drewN n) L := h.ext ((Ext.refl w).drewN n)
theorem Holds.name (h : Holds w L) : ∃ L1, Holds w L1 ∧ Hid (L1 = L) := ⟨L, h, rfl⟩
theorem Holds.nil (w : World) : Holds w [] := ⟨by simp, .nil⟩
theorem Holds.tail (h : Holds w (e :: L)) : Holds w L := ⟨fun x hx => h.all x (.tail _ hx), (List.pairwise_cons.1 h.pw).2⟩
theorem Holds.head (h : Holds w (e :: L)) : e.says w := h.all e (.head _)
theorem Holds.perm (h : Holds w L) (p : L.Perm L') : Holds w L' := ⟨fun x hx => h.all x (p.mem_iff.2 hx), (p.pairwise_iff (fun h => Ent.apart_symm h)).1 h.pw⟩
theorem Holds.append_right (h : Holds w (L ++ L')) : Holds w L' := ⟨fun x hx => h.all x (List.mem_append_right _ hx), (List.pairwise_append.1 h.pw).2.1⟩
theorem Holds.add (h : Holds w L) (hs : e.says w) (ha : ∀ x ∈ L, e.apart x) : Holds w (e :: L) := ⟨fun x hx => by rcases List.mem_cons.1 hx with rfl | hx; exact hs; exact h.all x hx, List.pairwise_cons.2 ⟨ha, h.pw⟩⟩
/-- an entry on new blocks. -/
theorem Holds.new (h : Holds w L) (hx : Ext w w') (hs : e.says w') (hf : ∀ b, e.foot b → w.heap.size ≤ b) : Holds w' (e :: L) :=
  (h.ext hx).add hs fun x hxL => .inr fun b hb hxb => by have := x.inb w (h.all x hxL) b hxb; have := hf b hb; omega
/-- a shared entry that says less of blocks that a shared entry names already, or of none. -/
theorem Holds.set (h : Holds w (e :: L)) (ho : e.own = true) (hk : Kept (fun b => ¬ e.foot b) w w') (hs : e'.says w') (hf : ∀ b, e'.foot b → e.foot b ∨ w.heap.size ≤ b) : Holds w' (e' :: L) := by
  have hp := List.pairwise_cons.1 h.pw
  have hap : ∀ x ∈ L, ∀ b, x.foot b → ¬ e.foot b := fun x hx b hb he => by
    rcases hp.1 x hx with ⟨h1, _⟩ | h1
    · rw [ho] at h1; cases h1
    · exact h1 b he hb
  have h2 : Holds w' L := h.tail.kept fun x hx => ⟨hk.os, hk.tape, hk.output, hk.size, fun b hb hlt => hk.block b (hap x hx b hb) hlt⟩
  refine h2.add hs fun x hx => .inr fun b hb hxb => ?_
  rcases hf b hb with h3 | h3
  · exact hap x hx b hxb h3
  · have := x.inb w (h.all x (.tail _ hx)) b hxb; omega
end

/-- L holds e; without it: L'. -/
inductive Pull (e : Ent) : List Ent → List Ent → Prop
  | here {L : List Ent} : Pull e (e :: L) L
  | there {x : Ent} {L L' : List Ent} : Pull e L L' → Pull e (x :: L) (x :: L')
theorem Pull.perm {e : Ent} {L L' : List Ent} (h : Pull e L L') : L.Perm (e :: L') := by
  induction h with
  | here => exact .refl _
  | there _ ih => exact (List.Perm.cons _ ih).trans (.swap _ _ _)
theorem Pull.mem {e : Ent} {L L' : List Ent} (h : Pull e L L') : e ∈ L := h.perm.mem_iff.2 (.head _)
theorem Holds.pull {w : World} {e : Ent} {L L' : List Ent} (h : Holds w L) (p : Pull e L L') : Holds w (e :: L') := h.perm p.perm
/-- the entries of L' stand in L, in whatever order; the others are let go. -/
inductive Reord : List Ent → List Ent → Prop
  | rest {L : List Ent} : Reord L L
  | drop {x : Ent} {L L' : List Ent} : Reord L L' → Reord (x :: L) L'
  | cons {e : Ent} {L M L' : List Ent} (p : Pull e L M) (r : Reord M L') : Reord L (e :: L')
theorem Reord.mem {A B : List Ent} (r : Reord A B) : ∀ x ∈ B, x ∈ A := by
  induction r with
  | rest => exact fun x h => h
  | drop _ ih => exact fun x h => .tail _ (ih x h)
  | cons p _ ih =>
    intro x h
    rcases List.mem_cons.1 h with rfl | h
    · exact p.mem
    · exact p.perm.mem_iff.2 (.tail _ (ih x h))
theorem Reord.use {w : World} {L L' : List Ent} (H : Holds w L) (r : Reord L L') : Holds w L' := by
  induction r with
  | rest => exact H
  | drop _ ih => exact ih H.tail
  | cons p r ih =>
    have h1 := H.pull p
    have h2 := ih h1.tail
    refine ⟨fun x hx => ?_, ?_⟩
    · rcases List.mem_cons.1 hx with rfl | hx
      · exact h1.head
      · exact h2.all x hx
    · exact List.pairwise_cons.2 ⟨fun x hx => (List.pairwise_cons.1 h1.pw).1 x (r.mem x hx), h2.pw⟩
/-- L with e' in the place of e. -/
inductive Upd (e e' : Ent) : List Ent → List Ent → Prop
  | here {L : List Ent} : Upd e e' (e :: L) (e' :: L)
  | there {x : Ent} {L L' : List Ent} : Upd e e' L L' → Upd e e' (x :: L) (x :: L')
theorem Upd.perm {e e' : Ent} {L L' : List Ent} (h : Upd e e' L L') : ∃ R, L.Perm (e :: R) ∧ (e' :: R).Perm L' := by
  induction h with
  | here => exact ⟨_, .refl _, .refl _⟩
  | there _ ih =>
    obtain ⟨R, h1, h2⟩ := ih
    exact ⟨_ :: R, (List.Perm.cons _ h1).trans (.swap _ _ _), (List.Perm.swap _ _ _).trans (h2.cons _)⟩
theorem Upd.split {e e' : Ent} {L L' : List Ent} (h : Upd e e' L L') : ∃ R, Pull e L R ∧ Pull e' L' R := by
  induction h with
  | here => exact ⟨_, .here, .here⟩
  | there _ ih => obtain ⟨R, h1, h2⟩ := ih; exact ⟨_, .there h1, .there h2⟩
theorem Upd.mem {e e' : Ent} {L L' : List Ent} (h : Upd e e' L L') : e ∈ L := by obtain ⟨R, h1, _⟩ := h.perm; exact h1.mem_iff.2 (.head _)
theorem Holds.upd {w w' : World} {e e' : Ent} {L L' : List Ent} (h : Holds w L) (u : Upd e e' L L') (ho : e.own = true) (hk : Kept (fun b => ¬ e.foot b) w w') (hs : e'.says w') (hf : ∀ b, e'.foot b → e.foot b ∨ w.heap.size ≤ b) : Holds w' L' := by
  obtain ⟨R, h1, h2⟩ := u.perm
  exact (Holds.set (h.perm h1) ho hk hs hf).perm h2
/-- what L gives. -/
def Gives (L : List Ent) (p : World → Prop) : Prop := ∀ w, Holds w L → p w
theorem Gives.mem {L : List Ent} {e : Ent} (h : e ∈ L) : Gives L e.says := fun _ H => H.all e h
theorem Gives.cons {L : List Ent} {e : Ent} {p : World → Prop} (h : Gives L p) : Gives (e :: L) p := fun w H => h w H.tail
theorem Gives.imp {L : List Ent} {p q : World → Prop} (h : Gives L p) (hq : ∀ w, p w → q w) : Gives L q := fun w H => hq w (h w H)
theorem Gives.upd {L L' : List Ent} {e e' : Ent} {p : World → Prop} (h : Gives L p) (hs : ∀ w, Holds w L' → Holds w L) : Gives L' p := fun w H => h w (hs w H)

/-! ### the entries -/
/-- block b is just these cells. -/
def blk (b : Nat) (cs : List Value) (T : TypeId) : Ent :=
  ⟨true, (· = b), fun w => w.heap[b]? = some (.cells cs.toArray T (0, 0)),
   fun w w' hk h => by
    have hb : b < w.heap.size := (Array.getElem?_eq_some_iff.1 h).1
    exact (hk.block b rfl hb).trans h,
   fun w h c hc => by obtain rfl : c = b := hc; exact (Array.getElem?_eq_some_iff.1 h).1⟩
/-- what stood in w0 is as it was. -/
def base (w0 : World) : Ent :=
  ⟨false, (· < w0.heap.size), Ext w0, fun w w' hk h => ⟨hk.os.trans h.os, hk.tape.trans h.tape, hk.output.trans h.output, Nat.le_trans h.size hk.size, fun b hb => (hk.block b hb (Nat.lt_of_lt_of_le hb h.size)).trans (h.block b hb)⟩,
   fun w h b hb => Nat.lt_of_lt_of_le hb h.size⟩
theorem holds_base (w : World) : Holds w [base w] := (Holds.nil w).add (Ext.refl w) (by simp)

/-- a slice value of the call's own. -/
def ownE (e : TypeId) (size : Nat) (v : Value) (n : Nat) (xs : List Value) : Ent :=
  ⟨true, fun b => v.ownBlock = some b, fun w => w.ownsRow 0 e size v n xs,
   fun w w' hk h => by
    refine ⟨h.1, ?_⟩
    rcases h.2 with h2 | ⟨g, cap, cur, h3, h4, h5, r⟩
    · exact .inl h2
    · exact .inr ⟨g, cap, cur, h3, h4, (hk.block g (by rw [h3]; rfl) (Array.getElem?_eq_some_iff.1 h5).1).trans h5, r⟩,
   fun w h b hb => (h.lt b hb).2⟩
theorem own_some {w : World} {base : Nat} {e : TypeId} {size : Nat} {A : Option Addr} {n cap m : Nat} {xs : List Value} (h : w.ownsRow base e size (.slice A n cap) m xs) (hm : 0 < m) : ∃ b, A = some ⟨b, 0, none⟩ := by
  rcases h.2 with ⟨-, h0⟩ | ⟨g, c, cur, hv, _⟩
  · omega
  · injection hv with h1; exact ⟨g, h1⟩
theorem own_le {w : World} {base : Nat} {e : TypeId} {size : Nat} {A : Option Addr} {n cap : Nat} {xs : List Value} (h : w.ownsRow base e size (.slice A n cap) n xs) : n ≤ cap ∧ cap ≤ 9223372036854775807 := by
  rcases h.2 with ⟨hv, h0⟩ | ⟨g, c, cur, hv, _, _, hn, hc, _⟩
  · injection hv with h1 h2 h3; omega
  · injection hv with h1 h2 h3; subst h3; exact ⟨hn, by simpa [maxLen] using hc⟩
theorem Holds.new_own {w w' : World} {L : List Ent} (h : Holds w L) (hx : Ext w w') {e : TypeId} {size : Nat} {v : Value} {n : Nat} {xs : List Value} (ho : w'.ownsRow w.heap.size e size v n xs) : Holds w' (ownE e size v n xs :: L) :=
  h.new hx (own_mono ho (Nat.zero_le _)) fun b hb => (ho.lt b hb).1
theorem gives_own {L : List Ent} {e : TypeId} {size : Nat} {a : Option Addr} {n n' cap : Nat} {xs : List Value} (h : ownE e size (.slice a n cap) n' xs ∈ L) (hn : n' = n) : Gives L fun w => Rd w size a n cap xs := fun w H => by
  subst hn; exact Rd.of_own (H.all _ h)

theorem Holds.range {w : World} {L : List Ent} {b : Nat} {cs : List Value} {T : TypeId} (h : Holds w L) (hm : blk b cs T ∈ L) : w.rangeAt b 0 cs := fun j v hj => by
  rw [cell_of_row w b (0 + j) _ T (0, 0) (h.all _ hm)]
  simpa using hj
theorem Holds.cells {w : World} {L : List Ent} {b : Nat} {cs : List Value} {T : TypeId} (h : Holds w L) (hm : blk b cs T ∈ L) : ∀ j : Nat, w.cell? ⟨b, j, none⟩ = cs[j]? := fun j => by
  rw [cell_of_row w b j _ T (0, 0) (h.all _ hm)]
  simp
theorem Holds.alloc {w : World} {L : List Ent} (h : Holds w L) (cs : List Value) (T : TypeId) : Holds (w.alloc (.cells cs.toArray T)) (blk w.heap.size cs T :: L) :=
  h.new ((Ext.refl w).alloc _) (heap_alloc_new w _) fun b hb => Nat.le_of_eq (Eq.symm hb)

/-! ### an object: entries under one name -/
def packE (l : List Ent) (p : Prop) : Ent :=
  ⟨true, fun b => ∃ e ∈ l, e.foot b, fun w => p ∧ Holds w l,
   fun w w' hk h => ⟨h.1, h.2.kept fun e he => ⟨hk.os, hk.tape, hk.output, hk.size, fun b hb hlt => hk.block b ⟨e, he, hb⟩ hlt⟩⟩,
   fun w h b hb => by obtain ⟨e, he, hb⟩ := hb; exact e.inb w (h.2.all e he) b hb⟩
theorem Holds.unpack {w : World} {l L : List Ent} {p : Prop} (H : Holds w (packE l p :: L)) : p ∧ Holds w (l ++ L) := by
  have h := H.head
  refine ⟨h.1, fun x hx => ?_, ?_⟩
  · rcases List.mem_append.1 hx with hx | hx
    · exact h.2.all x hx
    · exact H.all x (.tail _ hx)
  · refine List.pairwise_append.2 ⟨h.2.pw, H.tail.pw, fun e he x hx => ?_⟩
    rcases (List.pairwise_cons.1 H.pw).1 x hx with ⟨h1, -⟩ | h1
    · cases h1
    · exact .inr fun b hb => h1 b ⟨e, he, hb⟩
theorem Holds.pack {w : World} {l L : List Ent} {p : Prop} (H : Holds w (l ++ L)) (hp : p) (ho : ∀ e ∈ l, e.own = true) : Holds w (packE l p :: L) := by
  have hpw := List.pairwise_append.1 H.pw
  refine H.append_right.add ⟨hp, fun x hx => H.all x (List.mem_append_left _ hx), hpw.1⟩ fun x hx => .inr fun b hb hxb => ?_
  obtain ⟨e, he, hb⟩ := hb
  rcases hpw.2.2 e he x hx with ⟨h1, -⟩ | h1
  · rw [ho e he] at h1; cases h1
  · exact h1 b hb hxb
/-- nil is a slice of the call's own. -/
theorem Holds.add_nil {w : World} {L : List Ent} (H : Holds w L) (e : TypeId) (size : Nat) : Holds w (ownE e size (.slice none 0 0) 0 [] :: L) :=
  H.add ⟨by simp, .inl ⟨rfl, rfl⟩⟩ fun x _ => .inr fun b hb => by cases hb

/-! ### operations -/
def setL : List Value → Nat → List Value → List Value
  | cs, _, [] => cs
  | cs, k, v :: r => setL (cs.set k v) (k + 1) r
theorem setL_len : ∀ (vs : List Value) (k : Nat) (cs : List Value), (setL cs k vs).length = cs.length
  | [], _, _ => rfl
  | v :: r, k, cs => by rw [setL, setL_len r]; simp
theorem setL_app : ∀ (vs : List Value) (a b : List Value), vs.length = b.length → setL (a ++ b) a.length vs = a ++ vs
  | [], a, b, h => by simp at h; simp [setL, List.eq_nil_of_length_eq_zero h.symm]
  | v :: r, a, [], h => by simp at h
  | v :: r, a, x :: b, h => by
    rw [setL, List.set_append_right _ _ (Nat.le_refl _), Nat.sub_self, List.set_cons_zero]
    have := setL_app r (a ++ [v]) b (by simpa using h)
    simpa using this
theorem setL_whole {cs vs : List Value} (h : vs.length = cs.length) : setL cs 0 vs = vs := by simpa using setL_app vs [] cs h
theorem blk_setCells {b : Nat} {T : TypeId} : ∀ (vs : List Value) (k : Nat) (cs : List Value) (w : World), w.heap[b]? = some (.cells cs.toArray T (0, 0)) → (w.setCells b k vs).heap[b]? = some (.cells (setL cs k vs).toArray T (0, 0))
  | [], _, _, _, h => h
  | v :: r, k, cs, w, h => by
    rw [World.setCells, setL]
    refine blk_setCells r (k + 1) _ _ ?_
    rw [heap_setCell_same w b k _ T v h]
    simp
theorem kept_setCells {b : Nat} {w0 : World} : ∀ (vs : List Value) (k : Nat) (w : World), Kept (fun c => ¬ c = b) w0 w → Kept (fun c => ¬ c = b) w0 (w.setCells b k vs)
  | [], _, _, h => h
  | v :: r, k, w, h => by
    rw [World.setCells]
    refine kept_setCells r (k + 1) _ ⟨h.os, h.tape, h.output, by simpa [World.setCell] using h.size, fun c hc hlt => ?_⟩
    rw [heap_setCell_other _ _ _ _ hc]
    exact h.block c hc hlt
theorem Holds.store {w : World} {L L' : List Ent} {b : Nat} {cs : List Value} {T : TypeId} {k : Nat} {vs : List Value} (h : Holds w L) (u : Upd (blk b cs T) (blk b (setL cs k vs) T) L L') : Holds (w.setCells b k vs) L' :=
  h.upd u rfl (kept_setCells vs k w (.refl _ w)) (blk_setCells vs k cs w (h.all _ u.mem)) fun _ hb => .inl hb

/-- a type whose values are no rows of cells. -/
def scalarB (P : Program) (T : TypeId) : Bool := match P.underlying T with | some (.struct _) | some (.array _ _) | none => false | _ => true
/-- a type whose values are n cells. -/
def aggB (P : Program) (T : TypeId) (n : Nat) : Bool := (match P.underlying T with | some (.struct _) | some (.array _ _) => true | _ => false) && ((P.info? T).map (·.size) == some n)
def AggOf (P : Program) (T n : Nat) : Prop := aggB P T n = true
def Scalar (P : Program) (T : Nat) : Prop := (scalarB P T && ((P.info? T).map (·.size) == some 1)) = true
def SizeIs (P : Program) (T n : Nat) : Prop := ((P.info? T).map (·.size) == some n) = true
theorem SizeIs.of_sc {P : Program} {T : Nat} (h : Scalar P T) : SizeIs P T 1 := by unfold Scalar at h; rw [Bool.and_eq_true] at h; exact h.2
theorem SizeIs.of_ag {P : Program} {T n : Nat} (h : AggOf P T n) : SizeIs P T n := by unfold AggOf aggB at h; rw [Bool.and_eq_true] at h; exact h.2
theorem aggB_spec {P : Program} {T n : Nat} (h : AggOf P T n) : (∃ d, P.underlying T = some d ∧ TypeDesc.isRow d = true) ∧ (P.info? T).map (·.size) = some n := by
  unfold AggOf aggB at h
  rw [Bool.and_eq_true] at h
  refine ⟨?_, by simpa using h.2⟩
  have h1 := h.1
  split at h1
  · rename_i x hx; exact ⟨_, hx, rfl⟩
  · rename_i x y hx; exact ⟨_, hx, rfl⟩
  · cases h1
theorem run_isAgg_no {P : Program} {T : TypeId} (h : Scalar P T) (w : World) : (isAgg T).run P w = .ok false w := by
  unfold Scalar scalarB at h
  rw [Bool.and_eq_true] at h
  replace h := h.1
  unfold isAgg
  split at h
  · cases h
  · cases h
  · cases h
  · rename_i d h1 h2 h3
    cases hd : P.underlying T with
    | none => exact absurd hd h3
    | some d' =>
      rw [Sem.run_bind, run_underlying hd w]
      cases d' <;> simp_all

section
variable {P : Program} {ops : Array Oper} {rest : List Oper} {a : Act} {w : World} {Q : Exit → Act → World → Prop} {L : List Ent}
theorem wpl_run {o : Oper} (hw : Region.wanted o (yielded ops a.tmps) = true) {w' : World} {v : Value} (hr : (execOp a.eval o).run P w = .ok (.value v) w') (h : wpList P ops Q rest (a.put o.dst v) w') : wpList P ops Q (o :: rest) a w :=
  wpList_step fun K hK => by
    rw [if_pos hw]
    unfold Oper.wp
    rw [hr]
    exact hK _ _ h
theorem wpl_skip {o : Oper} (hw : Region.wanted o (yielded ops a.tmps) = true) {w' : World} (hr : (execOp a.eval o).run P w = .ok .skip w') (h : wpList P ops Q rest (a.put o.dst undef) w') : wpList P ops Q (o :: rest) a w :=
  wpList_step fun K hK => by
    rw [if_pos hw]
    unfold Oper.wp
    rw [hr]
    exact hK _ _ h
/-- a load of one cell. -/
theorem wpl_load {dst : Option Tmp} {T : TypeId} {x : Operand} {ty : TypeId} {pos : String} {after : Array Edge} {gd : Option (Nat × Bool)} (H : Holds w L)
    (hw : Region.wanted ⟨dst, .load T x, ty, pos, after, gd⟩ (yielded ops a.tmps) = true) {b k : Nat} (hx : a.eval x = .pointer (some ⟨b, k, none⟩)) {cs : List Value} {T' : TypeId} (hm : blk b cs T' ∈ L)
    (hs : Scalar P T) {v : Value} (hv : cs[k]? = some v) (h : wpList P ops Q rest (a.put dst v) w) : wpList P ops Q (⟨dst, .load T x, ty, pos, after, gd⟩ :: rest) a w := by
  refine wpl_run hw (v := v) (w' := w) ?_ h
  have hc : w.cell? ⟨b, k, none⟩ = some v := by rw [cell_of_row w b k _ T' (0, 0) (H.all _ hm)]; simpa using hv
  unfold execOp
  simp [hx, Instr.loadAt, Instr.sureAddr, loadVar, run_isAgg_no hs, Sem.run_bind, hc, load, Sem.run]
/-- a load of a row of cells. -/
theorem wpl_loadA {dst : Option Tmp} {T : TypeId} {x : Operand} {ty : TypeId} {pos : String} {after : Array Edge} {gd : Option (Nat × Bool)} (H : Holds w L)
    (hw : Region.wanted ⟨dst, .load T x, ty, pos, after, gd⟩ (yielded ops a.tmps) = true) {b k : Nat} (hx : a.eval x = .pointer (some ⟨b, k, none⟩)) {cs : List Value} {T' : TypeId} (hm : blk b cs T' ∈ L)
    {n : Nat} (hs : AggOf P T n) {vs : List Value} (hv : (cs.drop k).take n = vs) (hl : vs.length = n) (h : wpList P ops Q rest (a.put dst (.agg vs.toArray)) w) : wpList P ops Q (⟨dst, .load T x, ty, pos, after, gd⟩ :: rest) a w := by
  refine wpl_run hw (v := .agg vs.toArray) (w' := w) ?_ h
  obtain ⟨⟨d, hd, hr⟩, hi⟩ := aggB_spec hs
  have hc : w.rangeAt b k vs := fun j v hj => by
    rw [cell_of_row w b (k + j) _ T' (0, 0) (H.all _ hm)]
    rw [← hv, List.getElem?_take] at hj
    split at hj
    · rw [List.getElem?_drop] at hj; simpa using hj
    · cases hj
  unfold execOp
  simp only [hx, Sem.run_bind, run_loadAt_mid w b k T vs d hc hd hr (by rw [hi, hl]), Sem.run_pure, Result.andThen_ok]
/-- a store. -/
theorem wpl_store {dst : Option Tmp} {T : TypeId} {x y : Operand} {ty : TypeId} {pos : String} {after : Array Edge} {gd : Option (Nat × Bool)} (H : Holds w L)
    (hw : Region.wanted ⟨dst, .store T x y, ty, pos, after, gd⟩ (yielded ops a.tmps) = true) {b k : Nat} (hx : a.eval x = .pointer (some ⟨b, k, none⟩)) {vs : List Value} (hy : (a.eval y).cells = vs.toArray)
    {cs : List Value} {T' : TypeId} {L' : List Ent} (hm : Upd (blk b cs T') (blk b (setL cs k vs) T') L L') (hs : SizeIs P T vs.length) (h1 : vs.all (·.oneCell') = true) (hk : k + vs.length ≤ cs.length)
    (h : ∀ w', Holds w' L' → wpList P ops Q rest (a.put dst undef) w') : wpList P ops Q (⟨dst, .store T x y, ty, pos, after, gd⟩ :: rest) a w := by
  have hb := H.all _ hm.mem
  refine wpl_skip hw (w' := w.setCells b k vs) ?_ (h _ (H.store hm))
  have ht : w.there b k vs.toArray.size := fun j hj => by
    simp only [List.size_toArray] at hj
    refine ⟨?_, frozen_of_row w b (k + j) _ T' hb⟩
    rw [cell_of_row w b (k + j) _ T' (0, 0) hb]
    simp; omega
  have hr := run_storeVar_mid (P := P) w b k T vs.toArray ht (by unfold SizeIs at hs; simpa using hs) (by simpa using h1)
  have he : ∀ A : Addr, storeVar T A (a.eval y) = storeVar T A (.agg vs.toArray) := fun A => by unfold storeVar; rw [hy]; rfl
  unfold execOp
  simp only [hx, Instr.storeAt, Instr.sureAddr, Sem.run_bind, Sem.run_pure, Result.andThen_ok, he, hr]
theorem wpl_store1 {dst : Option Tmp} {T : TypeId} {x y : Operand} {ty : TypeId} {pos : String} {after : Array Edge} {gd : Option (Nat × Bool)} (H : Holds w L)
    (hw : Region.wanted ⟨dst, .store T x y, ty, pos, after, gd⟩ (yielded ops a.tmps) = true) {b k : Nat} (hx : a.eval x = .pointer (some ⟨b, k, none⟩)) {v : Value} (hy : a.eval y = v) (h1 : v.oneCell' = true)
    {cs : List Value} {T' : TypeId} {L' : List Ent} (hm : Upd (blk b cs T') (blk b (setL cs k [v]) T') L L') (hs : SizeIs P T 1) (hk : k + 1 ≤ cs.length)
    (h : ∀ w', Holds w' L' → wpList P ops Q rest (a.put dst undef) w') : wpList P ops Q (⟨dst, .store T x y, ty, pos, after, gd⟩ :: rest) a w :=
  wpl_store H hw hx (vs := [v]) (by rw [hy]; cases v <;> first | rfl | simp [Value.oneCell'] at h1) hm hs (by simp [h1]) hk h
/-- a new block, known whole. -/
theorem wpl_absorb {l : List Oper} {cs : List Value} {T : TypeId} (H : Holds w L) (h : ∀ w', Holds w' (blk w.heap.size cs T :: L) → wpList P ops Q l a w') : wpList P ops Q l a (w.alloc (.cells cs.toArray T)) := h _ (H.alloc cs T)
theorem wp_absorb {c : Code} {cs : List Value} {T : TypeId} (H : Holds w L) (h : ∀ w', Holds w' (blk w.heap.size cs T :: L) → c.wp P Q a w') : c.wp P Q a (w.alloc (.cells cs.toArray T)) := h _ (H.alloc cs T)
theorem wpl_drew {l : List Oper} (H : Holds w L) (h : ∀ w', Holds w' L → wpList P ops Q l a w') : wpList P ops Q l a w.drew := h _ H.drew
theorem wpl_drewN {l : List Oper} {n : Nat} (H : Holds w L) (h : ∀ w', Holds w' L → wpList P ops Q l a w') : wpList P ops Q l a (w.drewN n) := h _ (H.drewN n)
theorem wp_drew {c : Code} (H : Holds w L) (h : ∀ w', Holds w' L → c.wp P Q a w') : c.wp P Q a w.drew := h _ H.drew
theorem wp_drewN {c : Code} {n : Nat} (H : Holds w L) (h : ∀ w', Holds w' L → c.wp P Q a w') : c.wp P Q a (w.drewN n) := h _ (H.drewN n)
/-- a byte of a slice that reads. -/
theorem wpl_loadB {dst : Option Tmp} {T : TypeId} {x : Operand} {ty : TypeId} {pos : String} {after : Array Edge} {gd : Option (Nat × Bool)} (H : Holds w L)
    (hw : Region.wanted ⟨dst, .load T x, ty, pos, after, gd⟩ (yielded ops a.tmps) = true) {b o j : Nat} (hx : a.eval x = .pointer (some ⟨b, o + j, none⟩)) {n cap : Nat} {l : List UInt8}
    (hm : Gives L fun w => Rd w 1 (some ⟨b, o, none⟩) n cap (bvs l)) (hs : Scalar P T) (hj : j < n) (h : wpList P ops Q rest (a.put dst (.int .u8 ((l[j]?.getD 0).toNat : Int))) w) : wpList P ops Q (⟨dst, .load T x, ty, pos, after, gd⟩ :: rest) a w := by
  refine wpl_run hw (v := .int .u8 ((l[j]?.getD 0).toNat : Int)) (w' := w) ?_ h
  obtain ⟨b', o', e, hc⟩ := (hm w H).byte hj
  injection e with e
  injection e with e1 e2
  subst e1 e2
  unfold execOp
  simp [hx, Instr.loadAt, Instr.sureAddr, loadVar, run_isAgg_no hs, Sem.run_bind, hc, load, Sem.run]
/-- likewise where the slice begins at its block's head. -/
theorem wpl_loadB0 {dst : Option Tmp} {T : TypeId} {x : Operand} {ty : TypeId} {pos : String} {after : Array Edge} {gd : Option (Nat × Bool)} (H : Holds w L)
    (hw : Region.wanted ⟨dst, .load T x, ty, pos, after, gd⟩ (yielded ops a.tmps) = true) {b j : Nat} (hx : a.eval x = .pointer (some ⟨b, j, none⟩)) {n cap : Nat} {l : List UInt8}
    (hm : Gives L fun w => Rd w 1 (some ⟨b, 0, none⟩) n cap (bvs l)) (hs : Scalar P T) (hj : j < n) (h : wpList P ops Q rest (a.put dst (.int .u8 ((l[j]?.getD 0).toNat : Int))) w) : wpList P ops Q (⟨dst, .load T x, ty, pos, after, gd⟩ :: rest) a w :=
  wpl_loadB (o := 0) H hw (by rw [Nat.zero_add]; exact hx) hm hs hj h
end
end Go.Proofs.Ytdnioigcgggdbaa
