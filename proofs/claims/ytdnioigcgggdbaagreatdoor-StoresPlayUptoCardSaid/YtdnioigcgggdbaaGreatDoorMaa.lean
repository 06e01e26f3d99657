/-
  Words for memory that this work's proofs share: a slice that reads as a list of cells or bytes, a slice of the call's own, worlds that only grow. Nothing of the program stands here.
  Memory as a list of what is known of it: each entry says something of the world, and names the blocks on which that hangs. Nothing of the program stands here.
  Memory as a list of entries: append, make, and bytes of a slice of the call's own. Nothing of the program stands here.
-/
import Derived.WalkKit
import Derived.WalkSpells
import Derived.WalkLawsBesides
import Derived.Deep.QuietTactic
import Derived.BigQuiet
import Derived.Lib.Hide
import Derived.Maps.AppendAt
import Derived.Deep.MidRow
namespace Go.Proofs.YtdnioigcgggdbaaGreatDoor
open Go.RowKit

/-! ### worlds that only grow -/
/-- w' is w with new blocks, old ones unchanged. -/
def Ext (w w' : World) : Prop := Below w.heap.size w w'
theorem Ext.refl (w : World) : Ext w w := Below.refl _ w
theorem Ext.size {w w' : World} (h : Ext w w') : w.heap.size ≤ w'.heap.size := Below.size h
theorem Ext.trans {a b c : World} (h : Ext a b) (k : Ext b c) : Ext a c := Below.trans h (Below.mono k h.size)
theorem Ext.of {w w' : World} (h : Below w.heap.size w w') : Ext w w' := h
theorem Ext.drewN {a w : World} (h : Ext a w) (n : Nat) : Ext a (w.drewN n) := ⟨h.os, h.tape, h.output, h.size, h.block⟩
theorem Ext.drew {a w : World} (h : Ext a w) : Ext a w.drew := Below.drew h
theorem Ext.alloc {a w : World} (h : Ext a w) (o : Obj) : Ext a (w.alloc o) := Below.alloc h h.size o
theorem Ext.setCell {a w : World} (h : Ext a w) {p : Addr} (hp : a.heap.size ≤ p.block) (u : Value) : Ext a (w.setCell p u) := Below.setCell h hp u
theorem Ext.grown {a w w' : World} {row : Option Nat} (h : Ext a w) (hg : w.grownBy w' row) (hr : ∀ k, row = some k → a.heap.size ≤ k) : Ext a w' := Below.grown h hg h.size hr
/-! ### bytes -/
def bv (b : UInt8) : Value := .int .u8 (b.toNat : Int)
def bvs (l : List UInt8) : List Value := l.map bv
theorem bvs_length (l : List UInt8) : (bvs l).length = l.length := by simp [bvs]
theorem bvs_append (a b : List UInt8) : bvs (a ++ b) = bvs a ++ bvs b := by simp [bvs]
theorem bvs_getElem? (l : List UInt8) (j : Nat) : (bvs l)[j]? = (l[j]?).map bv := by simp [bvs]
theorem bvs_drop (l : List UInt8) (k : Nat) : bvs (l.drop k) = (bvs l).drop k := by simp [bvs]
theorem bvs_take (l : List UInt8) (k : Nat) : bvs (l.take k) = (bvs l).take k := by simp [bvs]
theorem bvs_oneCell (l : List UInt8) : ∀ u ∈ bvs l, u.oneCell' = true := by
  intro u hu; obtain ⟨b, _, rfl⟩ := List.mem_map.1 hu; rfl
/-! ### a slice that reads -/
theorem add_mk (b o j : Nat) : (⟨b, o, none⟩ : Addr).add j = ⟨b, o + j, none⟩ := by unfold Addr.add; split <;> simp_all

/-- The slice value '.slice a n cap', size cells each, reads as the cells xs. -/
structure Rd (w : World) (size : Nat) (a : Option Addr) (n cap : Nat) (xs : List Value) : Prop where
  le : n ≤ cap
  top : cap ≤ maxLen
  len : xs.length = n * size
  nil : a = none → cap = 0
  at_ : 0 < n → ∃ b o, a = some ⟨b, o, none⟩ ∧ ∀ j, j < n * size → w.cell? ⟨b, o + j, none⟩ = xs[j]?

section
variable {w w' : World} {size n cap : Nat} {a : Option Addr} {xs : List Value}
theorem Rd.nil_ (w : World) (size : Nat) : Rd w size none 0 0 [] := ⟨Nat.le_refl _, by simp [maxLen], by simp, fun _ => rfl, fun h => absurd h (by omega)⟩
theorem Rd.keep (h : Rd w size a n cap xs) (hk : ∀ b o j, a = some ⟨b, o, none⟩ → b < w.heap.size → w'.cell? ⟨b, o + j, none⟩ = w.cell? ⟨b, o + j, none⟩) : Rd w' size a n cap xs :=
  ⟨h.le, h.top, h.len, h.nil, fun hn => by
    obtain ⟨b, o, rfl, hc⟩ := h.at_ hn
    refine ⟨b, o, rfl, fun j hj => ?_⟩
    have hl : j < xs.length := by rw [h.len]; exact hj
    have h1 := hc j hj
    rw [List.getElem?_eq_getElem hl] at h1
    have hb := World.block_lt_of_cell? w ⟨b, o + j, none⟩ h1
    rw [hk b o j rfl hb, hc j hj]⟩
theorem Rd.ext (h : Rd w size a n cap xs) (he : Ext w w') : Rd w' size a n cap xs := h.keep fun _ _ _ _ hb => Below.cell he hb
theorem Rd.drewN (h : Rd w size a n cap xs) (k : Nat) : Rd (w.drewN k) size a n cap xs := h.keep fun _ _ _ _ _ => rfl
theorem Rd.drew (h : Rd w size a n cap xs) : Rd w.drew size a n cap xs := h.keep fun _ _ _ _ _ => rfl
theorem Rd.alloc (h : Rd w size a n cap xs) (o : Obj) : Rd (w.alloc o) size a n cap xs := h.ext ((Ext.refl w).alloc o)
theorem Rd.grown {row : Option Nat} (h : Rd w size a n cap xs) (hg : w.grownBy w' row) (hr : ∀ q, a = some q → some q.block ≠ row) : Rd w' size a n cap xs :=
  h.keep fun b _ _ ha hb => World.cell?_of_block (hg.block b hb (hr _ ha))
theorem Rd.of_own {base : Nat} {e : TypeId} (h : w.ownsRow base e size (.slice a n cap) n xs) : Rd w size a n cap xs := by
  obtain ⟨hl, h2⟩ := h
  rcases h2 with ⟨hv, hn⟩ | ⟨g, c, cur, hv, hg, hh, hnc, hcm, hcs, htake⟩
  · injection hv with h1 h2 h3
    subst h1; subst h2; subst h3
    exact ⟨Nat.le_refl _, by simp [maxLen], hl, (fun _ => rfl), (fun h => absurd h (by omega))⟩
  · injection hv with h1 h2 h3
    subst h1; subst h3
    refine ⟨hnc, hcm, hl, (fun h => by cases h), fun _ => ⟨g, 0, rfl, fun j hj => ?_⟩⟩
    rw [cell_of_row w g (0 + j) cur e (0, 0) hh, ← htake, List.getElem?_take, if_pos (by omega)]
    simp
/-- A piece of what reads. -/
theorem Rd.cut (h : Rd w size a n cap xs) (lo hi m : Nat) (h1 : lo ≤ hi) (h2 : hi ≤ n) (h3 : hi ≤ m) (h4 : m ≤ cap) :
    Rd w size (if m = lo then a else a.map (·.add (lo * size))) (hi - lo) (m - lo) ((xs.drop (lo * size)).take ((hi - lo) * size)) := by
  have hle : hi * size ≤ n * size := Nat.mul_le_mul_right _ h2
  have hsub : (hi - lo) * size = hi * size - lo * size := Nat.sub_mul _ _ _
  have hlo : lo * size ≤ hi * size := Nat.mul_le_mul_right _ h1
  refine ⟨by omega, by have := h.top; omega, ?_, ?_, ?_⟩
  · rw [List.length_take, List.length_drop, h.len]; omega
  · intro hn
    split at hn
    · have := h.nil hn; omega
    · cases a with
      | none => have := h.nil rfl; omega
      | some p => simp at hn
  · intro hn
    obtain ⟨b, o, rfl, hc⟩ := h.at_ (by omega)
    rw [if_neg (by omega)]
    refine ⟨b, o + lo * size, by simp [add_mk], fun j hj => ?_⟩
    rw [Nat.add_assoc, hc _ (by omega), List.getElem?_take, if_pos hj, List.getElem?_drop]
end

/-- byte k of a slice of bytes. -/
theorem Rd.byte {w : World} {a : Option Addr} {n cap : Nat} {l : List UInt8} (h : Rd w 1 a n cap (bvs l)) {k : Nat} (hk : k < n) :
    ∃ b o, a = some ⟨b, o, none⟩ ∧ w.cell? ⟨b, o + k, none⟩ = some (.int .u8 ((l[k]?.getD 0).toNat : Int)) := by
  obtain ⟨b, o, rfl, hc⟩ := h.at_ (by omega)
  have hl : l.length = n := by have := h.len; rw [bvs_length] at this; omega
  refine ⟨b, o, rfl, ?_⟩
  rw [hc k (by omega), bvs_getElem?, List.getElem?_eq_getElem (by omega)]
  rfl
theorem Rd.blen {w : World} {a : Option Addr} {n cap : Nat} {l : List UInt8} (h : Rd w 1 a n cap (bvs l)) : l.length = n := by
  have := h.len; rw [bvs_length] at this; omega
/-! ### append onto a slice of the call's own -/
section
variable {P : Program} {w : World}
theorem run_append_rd (base : Nat) (t ty e : TypeId) (i : TypeInfo) (z : Value) (size bytes : Nat) (ht : P.underlying t = some (.slice e)) (hi : P.info? e = some i) (hz : i.zero = some z)
    (hsize : i.size = size) (hby : i.bytes = bytes) (hzs : z.cells.size = size) (hsz : 0 < size)
    {A : Option Addr} {n cap : Nat} {xs : List Value} (hown : w.ownsRow base e size (.slice A n cap) n xs)
    {A2 : Option Addr} {m c : Nat} {ys : List Value} (hr : Rd w size A2 m c ys) (h1 : ∀ u ∈ ys, u.oneCell' = true)
    (h63 : n + m ≤ maxLen) (hbytes : (n + m) * bytes ≤ 140737488355328) (hbase : base ≤ w.heap.size) :
    ∃ A' n' cap' w', (Builtin.append_ #[t, t] ty #[.slice A n cap, .slice A2 m c]).run P w = .ok (.slice A' n' cap') w' ∧ n' = n + m ∧ w'.ownsRow base e size (.slice A' n' cap') n' (xs ++ ys) ∧
      w.grownBy w' (Value.slice A n cap).ownBlock ∧ ((Value.slice A' n' cap').ownBlock = (Value.slice A n cap).ownBlock ∨ (Value.slice A' n' cap').ownBlock = some w.heap.size) := by
  cases A2 with
  | none =>
    obtain rfl : c = 0 := hr.nil rfl
    obtain rfl : m = 0 := by have := hr.le; omega
    obtain rfl : ys = [] := List.eq_nil_of_length_eq_zero (by simpa using hr.len)
    refine ⟨A, n, cap, w, ?_, rfl, by simpa using hown, World.grownBy.refl w _, .inl rfl⟩
    rcases hown.2 with ⟨hv, rfl⟩ | ⟨g, cap', cur, hv, _, _, hnc, _⟩
    · injection hv with e1 e2 e3
      subst e1; subst e3
      simp [Builtin.append_, run_underlying ht, sizeOf, typeInfo, hi, Builtin.lenOf, Builtin.firstCells]
    · injection hv with e1 e2 e3
      subst e1; subst e3
      simp [Builtin.append_, run_underlying ht, sizeOf, typeInfo, hi, Builtin.lenOf, Builtin.firstCells, hnc, storeCells]
  | some ad =>
    have hcells : ∀ j u, ys[j]? = some u → w.cell? (ad.add j) = some u := by
      intro j u hu
      have hj : j < ys.length := (List.getElem?_eq_some_iff.1 hu).1
      rw [hr.len] at hj
      rcases Nat.eq_zero_or_pos m with rfl | hm
      · simp at hj
      · obtain ⟨b, o, e1, hc⟩ := hr.at_ hm
        injection e1 with e1
        subst e1
        rw [add_mk, hc j hj, hu]
    obtain ⟨v', w', hrun, h2, h3, _, h5⟩ := run_append_own_at (P := P) w base t ty e i z size bytes ht hi hz hsize hby hzs hsz _ n xs hown ad m c ys hr.len hcells h1 h63 hbytes hbase
    rcases h2.2 with ⟨rfl, h0⟩ | ⟨g, cap', cur, rfl, r⟩
    · exact ⟨none, n + m, 0, w', by rw [hrun, h0], rfl, by rw [h0] at h2 ⊢; exact h2, h3, by simpa [Value.ownBlock] using h5⟩
    · exact ⟨_, _, _, w', hrun, rfl, h2, h3, by simpa [Value.ownBlock] using h5⟩

theorem wpl_append {ops : Array Oper} {rest : List Oper} {o : Oper} {a : Act} {Q : Exit → Act → World → Prop} (hgd : o.guard = none) (s x : Operand) (t : TypeId)
    (ho : o.op = .call { callee := .builtin .append, args := #[s, x], argTypes := #[t, t] })
    {e : TypeId} {z : Value} {size bytes : Nat} (ht : P.underlying t = some (.slice e)) (hinfo : (P.info? e).map (fun i => (i.zero, i.size, i.bytes)) = some (some z, size, bytes))
    (hzs : z.cells.size = size) (hsz : 0 < size)
    {A : Option Addr} {n cap : Nat} (hs : a.eval s = .slice A n cap) {A2 : Option Addr} {m c : Nat} (hx : a.eval x = .slice A2 m c)
    {base : Nat} {xs ys : List Value} (hown : w.ownsRow base e size (.slice A n cap) n xs) (hr : Rd w size A2 m c ys) (h1 : ∀ u ∈ ys, u.oneCell' = true)
    (h63 : n + m ≤ maxLen) (hbytes : (n + m) * bytes ≤ 140737488355328) (hbase : base ≤ w.heap.size)
    (h : ∀ A' n' cap' w', Hid (n' = n + m) → w'.ownsRow base e size (.slice A' n' cap') n' (xs ++ ys) → w.grownBy w' (Value.slice A n cap).ownBlock →
      ((Value.slice A' n' cap').ownBlock = (Value.slice A n cap).ownBlock ∨ (Value.slice A' n' cap').ownBlock = some w.heap.size) → wpList P ops Q rest (a.put o.dst (.slice A' n' cap')) w') : wpList P ops Q (o :: rest) a w := by
  obtain ⟨i, hi, hz, hsize, hby⟩ := info_parts hinfo
  obtain ⟨A', n', cap', w', hrun, h2, h3, h4, h5⟩ := run_append_rd (P := P) base t o.type e i z size bytes ht hi hz hsize hby hzs hsz hown hr h1 h63 hbytes hbase
  refine wpList_plain hgd fun K hK => ?_
  unfold Oper.wp execOp
  simp only [ho, resolve, invoke, builtin, Sem.run_bind, Sem.run_pure, Result.andThen_ok, List.map_toArray, List.map_cons, List.map_nil, hs, hx, hrun]
  exact hK _ _ (h A' n' cap' w' h2 h3 h4 h5)
end
theorem own_block_ge {w : World} {base : Nat} {e : TypeId} {size n : Nat} {v : Value} {xs : List Value} (h : w.ownsRow base e size v n xs) : ∀ k, v.ownBlock = some k → base ≤ k := fun k hk => (h.lt k hk).1

/-! ### slicing, as equations of the operation's run -/
section
variable {P : Program} {t e : TypeId} {size : Nat} {w : World} {a : Option Addr} {n cap : Nat} {xs : List Value}
end

theorem own_shape {w : World} {base : Nat} {e : TypeId} {size n : Nat} {v : Value} {xs : List Value} (h : w.ownsRow base e size v n xs) : ∃ A cap, v = .slice A n cap := by
  rcases h.2 with ⟨rfl, rfl⟩ | ⟨g, cap, cur, rfl, _⟩
  · exact ⟨_, _, rfl⟩
  · exact ⟨_, _, rfl⟩
theorem own_mono {w : World} {base base' : Nat} {e : TypeId} {size n : Nat} {v : Value} {xs : List Value} (h : w.ownsRow base' e size v n xs) (hb : base ≤ base') : w.ownsRow base e size v n xs := by
  refine ⟨h.1, ?_⟩
  rcases h.2 with h2 | ⟨g, cap, cur, h3, h4, r⟩
  · exact .inl h2
  · exact .inr ⟨g, cap, cur, h3, Nat.le_trans hb h4, r⟩
end Go.Proofs.YtdnioigcgggdbaaGreatDoor
set_option linter.unusedVariables false
namespace Go.Proofs.YtdnioigcgggdbaaGreatDoor
open Go.RowKit

theorem mH {α : Type} {a : α} {l : List α} : a ∈ a :: l := List.mem_cons_self
theorem mT {α : Type} {a b : α} {l : List α} (h : a ∈ l) : a ∈ b :: l := List.mem_cons_of_mem b h
/-- On the blocks of f, and beside the heap, w' is as w. -/
structure Kept (f : Nat → Prop) (w w' : World) : Prop where
  os : w'.os = w.os
  tape : w'.tape = w.tape
  output : w'.output = w.output
  size : w.heap.size ≤ w'.heap.size
  block : ∀ b, f b → b < w.heap.size → w'.heap[b]? = w.heap[b]?
theorem Kept.refl (f : Nat → Prop) (w : World) : Kept f w w := ⟨rfl, rfl, rfl, Nat.le_refl _, fun _ _ _ => rfl⟩
theorem Kept.of_ext {f : Nat → Prop} {w w' : World} (h : Ext w w') : Kept f w w' := ⟨h.os, h.tape, h.output, h.size, fun b _ hb => h.block b hb⟩

structure Ent where
  own : Bool
  foot : Nat → Prop
  says : World → Prop
  keep : ∀ w w', Kept foot w w' → says w → says w'
  inb : ∀ w, says w → ∀ b, foot b → b < w.heap.size
def Ent.apart (x y : Ent) : Prop := (x.own = false ∧ y.own = false) ∨ ∀ b, x.foot b → ¬ y.foot b
theorem Ent.apart_symm {x y : Ent} (h : x.apart y) : y.apart x := by
  rcases h with ⟨a, b⟩ | h
  · exact .inl ⟨b, a⟩
  · exact .inr fun b hy hx => h b hx hy
structure Holds (w : World) (L : List Ent) : Prop where
  all : ∀ e ∈ L, e.says w
  pw : L.Pairwise Ent.apart

section
variable {w w' : World} {L L' : List Ent} {e e' : Ent}
theorem Holds.kept (h : Holds w L) (hk : ∀ e ∈ L, Kept e.foot w w') : Holds w' L := ⟨fun e he => e.keep w w' (hk e he) (h.all e he), h.pw⟩
theorem Holds.ext (h : Holds w L) (hx : Ext w w') : Holds w' L := h.kept fun _ _ => .of_ext hx
theorem Holds.drew (h : Holds w L) : Holds w.drew L := h.ext (Ext.refl w).drew
theorem Holds.drewN (h : Holds w L) (n : Nat) : Holds (w.drewN n) L := h.ext ((Ext.refl w).drewN n)
theorem Holds.name (h : Holds w L) : ∃ L1, Holds w L1 ∧ Hid (L1 = L) := ⟨L, h, rfl⟩
theorem Holds.nil (w : World) : Holds w [] := ⟨by simp, .nil⟩
theorem Holds.tail (h : Holds w (e :: L)) : Holds w L := ⟨fun x hx => h.all x (.tail _ hx), (List.pairwise_cons.1 h.pw).2⟩
theorem Holds.head (h : Holds w (e :: L)) : e.says w := h.all e (.head _)
theorem Holds.perm (h : Holds w L) (p : L.Perm L') : Holds w L' := ⟨fun x hx => h.all x (p.mem_iff.2 hx), (p.pairwise_iff (fun h => Ent.apart_symm h)).1 h.pw⟩
theorem Holds.append_right (h : Holds w (L ++ L')) : Holds w L' := ⟨fun x hx => h.all x (List.mem_append_right _ hx), (List.pairwise_append.1 h.pw).2.1⟩
theorem Holds.add (h : Holds w L) (hs : e.says w) (ha : ∀ x ∈ L, e.apart x) : Holds w (e :: L) := ⟨fun x hx => by rcases List.mem_cons.1 hx with rfl | hx; exact hs; exact h.all x hx, List.pairwise_cons.2 ⟨ha, h.pw⟩⟩
/-- an entry on new blocks. -/
theorem Holds.new (h : Holds w L) (hx : Ext w w') (hs : e.says w') (hf : ∀ b, e.foot b → w.heap.size ≤ b) : Holds w' (e :: L) :=
  (h.ext hx).add hs fun x hxL => .inr fun b hb hxb => by have := x.inb w (h.all x hxL) b hxb; have := hf b hb; omega
/-- a shared entry that says less of blocks that a shared entry names already, or of none. -/
theorem Holds.set (h : Holds w (e :: L)) (ho : e.own = true) (hk : Kept (fun b => ¬ e.foot b) w w') (hs : e'.says w') (hf : ∀ b, e'.foot b → e.foot b ∨ w.heap.size ≤ b) : Holds w' (e' :: L) := by
  have hp := List.pairwise_cons.1 h.pw
  have hap : ∀ x ∈ L, ∀ b, x.foot b → ¬ e.foot b := fun x hx b hb he => by
    rcases hp.1 x hx with ⟨h1, _⟩ | h1
    · rw [ho] at h1; cases h1
    · exact h1 b he hb
  have h2 : Holds w' L := h.tail.kept fun x hx => ⟨hk.os, hk.tape, hk.output, hk.size, fun b hb hlt => hk.block b (hap x hx b hb) hlt⟩
  refine h2.add hs fun x hx => .inr fun b hb hxb => ?_
  rcases hf b hb with h3 | h3
  · exact hap x hx b hxb h3
  · have := x.inb w (h.all x (.tail _ hx)) b hxb; omega
end

/-- L holds e; without it: L'. -/
inductive Pull (e : Ent) : List Ent → List Ent → Prop
  | here {L : List Ent} : Pull e (e :: L) L
  | there {x : Ent} {L L' : List Ent} : Pull e L L' → Pull e (x :: L) (x :: L')
theorem Pull.perm {e : Ent} {L L' : List Ent} (h : Pull e L L') : L.Perm (e :: L') := by
  induction h with
  | here => exact .refl _
  | there _ ih => exact (List.Perm.cons _ ih).trans (.swap _ _ _)
theorem Pull.mem {e : Ent} {L L' : List Ent} (h : Pull e L L') : e ∈ L := h.perm.mem_iff.2 (.head _)
theorem Holds.pull {w : World} {e : Ent} {L L' : List Ent} (h : Holds w L) (p : Pull e L L') : Holds w (e :: L') := h.perm p.perm
/-- the entries of L' stand in L, in whatever order; the others are let go. -/
inductive Reord : List Ent → List Ent → Prop
  | rest {L : List Ent} : Reord L L
  | drop {x : Ent} {L L' : List Ent} : Reord L L' → Reord (x :: L) L'
  | cons {e : Ent} {L M L' : List Ent} (p : Pull e L M) (r : Reord M L') : Reord L (e :: L')
theorem Reord.mem {A B : List Ent} (r : Reord A B) : ∀ x ∈ B, x ∈ A := by
  induction r with
  | rest => exact fun x h => h
  | drop _ ih => exact fun x h => .tail _ (ih x h)
  | cons p _ ih =>
    intro x h
    rcases List.mem_cons.1 h with rfl | h
    · exact p.mem
    · exact p.perm.mem_iff.2 (.tail _ (ih x h))
theorem Reord.use {w : World} {L L' : List Ent} (H : Holds w L) (r : Reord L L') : Holds w L' := by
  induction r with
  | rest => exact H
  | drop _ ih => exact ih H.tail
  | cons p r ih =>
    have h1 := H.pull p
    have h2 := ih h1.tail
    refine ⟨fun x hx => ?_, ?_⟩
    · rcases List.mem_cons.1 hx with rfl | hx
      · exact h1.head
      · exact h2.all x hx
    · exact List.pairwise_cons.2 ⟨fun x hx => (List.pairwise_cons.1 h1.pw).1 x (r.mem x hx), h2.pw⟩
/-- L with e' in the place of e. -/
inductive Upd (e e' : Ent) : List Ent → List Ent → Prop
  | here {L : List Ent} : Upd e e' (e :: L) (e' :: L)
  | there {x : Ent} {L L' : List Ent} : Upd e e' L L' → Upd e e' (x :: L) (x :: L')
theorem Upd.perm {e e' : Ent} {L L' : List Ent} (h : Upd e e' L L') : ∃ R, L.Perm (e :: R) ∧ (e' :: R).Perm L' := by
  induction h with
  | here => exact ⟨_, .refl _, .refl _⟩
  | there _ ih =>
    obtain ⟨R, h1, h2⟩ := ih
    exact ⟨_ :: R, (List.Perm.cons _ h1).trans (.swap _ _ _), (List.Perm.swap _ _ _).trans (h2.cons _)⟩
theorem Upd.split {e e' : Ent} {L L' : List Ent} (h : Upd e e' L L') : ∃ R, Pull e L R ∧ Pull e' L' R := by
  induction h with
  | here => exact ⟨_, .here, .here⟩
  | there _ ih => obtain ⟨R, h1, h2⟩ := ih; exact ⟨_, .there h1, .there h2⟩
theorem Upd.mem {e e' : Ent} {L L' : List Ent} (h : Upd e e' L L') : e ∈ L := by obtain ⟨R, h1, _⟩ := h.perm; exact h1.mem_iff.2 (.head _)
theorem Holds.upd {w w' : World} {e e' : Ent} {L L' : List Ent} (h : Holds w L) (u : Upd e e' L L') (ho : e.own = true) (hk : Kept (fun b => ¬ e.foot b) w w') (hs : e'.says w') (hf : ∀ b, e'.foot b → e.foot b ∨ w.heap.size ≤ b) : Holds w' L' := by
  obtain ⟨R, h1, h2⟩ := u.perm
  exact (Holds.set (h.perm h1) ho hk hs hf).perm h2
/-- what L gives. -/
def Gives (L : List Ent) (p : World → Prop) : Prop := ∀ w, Holds w L → p w
theorem Gives.mem {L : List Ent} {e : Ent} (h : e ∈ L) : Gives L e.says := fun _ H => H.all e h
theorem Gives.cons {L : List Ent} {e : Ent} {p : World → Prop} (h : Gives L p) : Gives (e :: L) p := fun w H => h w H.tail
theorem Gives.imp {L : List Ent} {p q : World → Prop} (h : Gives L p) (hq : ∀ w, p w → q w) : Gives L q := fun w H => hq w (h w H)
theorem Gives.upd {L L' : List Ent} {e e' : Ent} {p : World → Prop} (h : Gives L p) (hs : ∀ w, Holds w L' → Holds w L) : Gives L' p := fun w H => h w (hs w H)

/-! ### the entries -/
/-- block b is just these cells. -/
def blk (b : Nat) (cs : List Value) (T : TypeId) : Ent :=
  ⟨true, (· = b), fun w => w.heap[b]? = some (.cells cs.toArray T (0, 0)),
   fun w w' hk h => by
    have hb : b < w.heap.size := (Array.getElem?_eq_some_iff.1 h).1
    exact (hk.block b rfl hb).trans h,
   fun w h c hc => by obtain rfl : c = b := hc; exact (Array.getElem?_eq_some_iff.1 h).1⟩
/-- what stood in w0 is as it was. -/
def base (w0 : World) : Ent :=
  ⟨false, (· < w0.heap.size), Ext w0, fun w w' hk h => ⟨hk.os.trans h.os, hk.tape.trans h.tape, hk.output.trans h.output, Nat.le_trans h.size hk.size, fun b hb => (hk.block b hb (Nat.lt_of_lt_of_le hb h.size)).trans (h.block b hb)⟩,
   fun w h b hb => Nat.lt_of_lt_of_le hb h.size⟩
theorem holds_base (w : World) : Holds w [base w] := (Holds.nil w).add (Ext.refl w) (by simp)

/-- a slice value of the call's own. -/
def ownE (e : TypeId) (size : Nat) (v : Value) (n : Nat) (xs : List Value) : Ent :=
  ⟨true, fun b => v.ownBlock = some b, fun w => w.ownsRow 0 e size v n xs,
   fun w w' hk h => by
    refine ⟨h.1, ?_⟩
    rcases h.2 with h2 | ⟨g, cap, cur, h3, h4, h5, r⟩
    · exact .inl h2
    · exact .inr ⟨g, cap, cur, h3, h4, (hk.block g (by rw [h3]; rfl) (Array.getElem?_eq_some_iff.1 h5).1).trans h5, r⟩,
   fun w h b hb => (h.lt b hb).2⟩
theorem own_some {w : World} {base : Nat} {e : TypeId} {size : Nat} {A : Option Addr} {n cap m : Nat} {xs : List Value} (h : w.ownsRow base e size (.slice A n cap) m xs) (hm : 0 < m) : ∃ b, A = some ⟨b, 0, none⟩ := by
  rcases h.2 with ⟨-, h0⟩ | ⟨g, c, cur, hv, _⟩
  · omega
  · injection hv with h1; exact ⟨g, h1⟩
theorem own_le {w : World} {base : Nat} {e : TypeId} {size : Nat} {A : Option Addr} {n cap : Nat} {xs : List Value} (h : w.ownsRow base e size (.slice A n cap) n xs) : n ≤ cap ∧ cap ≤ 9223372036854775807 := by
  rcases h.2 with ⟨hv, h0⟩ | ⟨g, c, cur, hv, _, _, hn, hc, _⟩
  · injection hv with h1 h2 h3; omega
  · injection hv with h1 h2 h3; subst h3; exact ⟨hn, by simpa [maxLen] using hc⟩
theorem Holds.new_own {w w' : World} {L : List Ent} (h : Holds w L) (hx : Ext w w') {e : TypeId} {size : Nat} {v : Value} {n : Nat} {xs : List Value} (ho : w'.ownsRow w.heap.size e size v n xs) : Holds w' (ownE e size v n xs :: L) :=
  h.new hx (own_mono ho (Nat.zero_le _)) fun b hb => (ho.lt b hb).1
theorem gives_own {L : List Ent} {e : TypeId} {size : Nat} {a : Option Addr} {n n' cap : Nat} {xs : List Value} (h : ownE e size (.slice a n cap) n' xs ∈ L) (hn : n' = n) : Gives L fun w => Rd w size a n cap xs := fun w H => by
  subst hn; exact Rd.of_own (H.all _ h)

theorem Holds.range {w : World} {L : List Ent} {b : Nat} {cs : List Value} {T : TypeId} (h : Holds w L) (hm : blk b cs T ∈ L) : w.rangeAt b 0 cs := fun j v hj => by
  rw [cell_of_row w b (0 + j) _ T (0, 0) (h.all _ hm)]
  simpa using hj
theorem Holds.cells {w : World} {L : List Ent} {b : Nat} {cs : List Value} {T : TypeId} (h : Holds w L) (hm : blk b cs T ∈ L) : ∀ j : Nat, w.cell? ⟨b, j, none⟩ = cs[j]? := fun j => by
  rw [cell_of_row w b j _ T (0, 0) (h.all _ hm)]
  simp
theorem Holds.alloc {w : World} {L : List Ent} (h : Holds w L) (cs : List Value) (T : TypeId) : Holds (w.alloc (.cells cs.toArray T)) (blk w.heap.size cs T :: L) :=
  h.new ((Ext.refl w).alloc _) (heap_alloc_new w _) fun b hb => Nat.le_of_eq (Eq.symm hb)

/-! ### an object: entries under one name -/
def packE (l : List Ent) (p : Prop) : Ent :=
  ⟨true, fun b => ∃ e ∈ l, e.foot b, fun w => p ∧ Holds w l,
   fun w w' hk h => ⟨h.1, h.2.kept fun e he => ⟨hk.os, hk.tape, hk.output, hk.size, fun b hb hlt => hk.block b ⟨e, he, hb⟩ hlt⟩⟩,
   fun w h b hb => by obtain ⟨e, he, hb⟩ := hb; exact e.inb w (h.2.all e he) b hb⟩
theorem Holds.unpack {w : World} {l L : List Ent} {p : Prop} (H : Holds w (packE l p :: L)) : p ∧ Holds w (l ++ L) := by
  have h := H.head
  refine ⟨h.1, fun x hx => ?_, ?_⟩
  · rcases List.mem_append.1 hx with hx | hx
    · exact h.2.all x hx
    · exact H.all x (.tail _ hx)
  · refine List.pairwise_append.2 ⟨h.2.pw, H.tail.pw, fun e he x hx => ?_⟩
    rcases (List.pairwise_cons.1 H.pw).1 x hx with ⟨h1, -⟩ | h1
    · cases h1
    · exact .inr fun b hb => h1 b ⟨e, he, hb⟩
theorem Holds.pack {w : World} {l L : List Ent} {p : Prop} (H : Holds w (l ++ L)) (hp : p) (ho : ∀ e ∈ l, e.own = true) : Holds w (packE l p :: L) := by
  have hpw := List.pairwise_append.1 H.pw
  refine H.append_right.add ⟨hp, fun x hx => H.all x (List.mem_append_left _ hx), hpw.1⟩ fun x hx => .inr fun b hb hxb => ?_
  obtain ⟨e, he, hb⟩ := hb
  rcases hpw.2.2 e he x hx with ⟨h1, -⟩ | h1
  · rw [ho e he] at h1; cases h1
  · exact h1 b hb hxb
/-- nil is a slice of the call's own. -/
theorem Holds.add_nil {w : World} {L : List Ent} (H : Holds w L) (e : TypeId) (size : Nat) : Holds w (ownE e size (.slice none 0 0) 0 [] :: L) :=
  H.add ⟨by simp, .inl ⟨rfl, rfl⟩⟩ fun x _ => .inr fun b hb => by cases hb

/-! ### operations -/
def setL : List Value → Nat → List Value → List Value
  | cs, _, [] => cs
  | cs, k, v :: r => setL (cs.set k v) (k + 1) r
theorem setL_len : ∀ (vs : List Value) (k : Nat) (cs : List Value), (setL cs k vs).length = cs.length
  | [], _, _ => rfl
  | v :: r, k, cs => by rw [setL, setL_len r]; simp
theorem setL_app : ∀ (vs : List Value) (a b : List Value), vs.length = b.length → setL (a ++ b) a.length vs = a ++ vs
  | [], a, b, h => by simp at h; simp [setL, List.eq_nil_of_length_eq_zero h.symm]
  | v :: r, a, [], h => by simp at h
  | v :: r, a, x :: b, h => by
    rw [setL, List.set_append_right _ _ (Nat.le_refl _), Nat.sub_self, List.set_cons_zero]
    have := setL_app r (a ++ [v]) b (by simpa using h)
    simpa using this
theorem setL_whole {cs vs : List Value} (h : vs.length = cs.length) : setL cs 0 vs = vs := by simpa using setL_app vs [] cs h
theorem blk_setCells {b : Nat} {T : TypeId} : ∀ (vs : List Value) (k : Nat) (cs : List Value) (w : World), w.heap[b]? = some (.cells cs.toArray T (0, 0)) → (w.setCells b k vs).heap[b]? = some (.cells (setL cs k vs).toArray T (0, 0))
  | [], _, _, _, h => h
  | v :: r, k, cs, w, h => by
    rw [World.setCells, setL]
    refine blk_setCells r (k + 1) _ _ ?_
    rw [heap_setCell_same w b k _ T v h]
    simp
theorem kept_setCells {b : Nat} {w0 : World} : ∀ (vs : List Value) (k : Nat) (w : World), Kept (fun c => ¬ c = b) w0 w → Kept (fun c => ¬ c = b) w0 (w.setCells b k vs)
  | [], _, _, h => h
  | v :: r, k, w, h => by
    rw [World.setCells]
    refine kept_setCells r (k + 1) _ ⟨h.os, h.tape, h.output, by simpa [World.setCell] using h.size, fun c hc hlt => ?_⟩
    rw [heap_setCell_other _ _ _ _ hc]
    exact h.block c hc hlt
theorem Holds.store {w : World} {L L' : List Ent} {b : Nat} {cs : List Value} {T : TypeId} {k : Nat} {vs : List Value} (h : Holds w L) (u : Upd (blk b cs T) (blk b (setL cs k vs) T) L L') : Holds (w.setCells b k vs) L' :=
  h.upd u rfl (kept_setCells vs k w (.refl _ w)) (blk_setCells vs k cs w (h.all _ u.mem)) fun _ hb => .inl hb

/-- a type whose values are no rows of cells. -/
def scalarB (P : Program) (T : TypeId) : Bool := match P.underlying T with | some (.struct _) | some (.array _ _) | none => false | _ => true
/-- a type whose values are n cells. -/
def aggB (P : Program) (T : TypeId) (n : Nat) : Bool := (match P.underlying T with | some (.struct _) | some (.array _ _) => true | _ => false) && ((P.info? T).map (·.size) == some n)
def AggOf (P : Program) (T n : Nat) : Prop := aggB P T n = true
def Scalar (P : Program) (T : Nat) : Prop := (scalarB P T && ((P.info? T).map (·.size) == some 1)) = true
def SizeIs (P : Program) (T n : Nat) : Prop := ((P.info? T).map (·.size) == some n) = true
theorem SizeIs.of_sc {P : Program} {T : Nat} (h : Scalar P T) : SizeIs P T 1 := by unfold Scalar at h; rw [Bool.and_eq_true] at h; exact h.2
theorem SizeIs.of_ag {P : Program} {T n : Nat} (h : AggOf P T n) : SizeIs P T n := by unfold AggOf aggB at h; rw [Bool.and_eq_true] at h; exact h.2
theorem aggB_spec {P : Program} {T n : Nat} (h : AggOf P T n) : (∃ d, P.underlying T = some d ∧ TypeDesc.isRow d = true) ∧ (P.info? T).map (·.size) = some n := by
  unfold AggOf aggB at h
  rw [Bool.and_eq_true] at h
  refine ⟨?_, by simpa using h.2⟩
  have h1 := h.1
  split at h1
  · rename_i x hx; exact ⟨_, hx, rfl⟩
  · rename_i x y hx; exact ⟨_, hx, rfl⟩
  · cases h1
theorem run_isAgg_no {P : Program} {T : TypeId} (h : Scalar P T) (w : World) : (isAgg T).run P w = .ok false w := by
  unfold Scalar scalarB at h
  rw [Bool.and_eq_true] at h
  replace h := h.1
  unfold isAgg
  split at h
  · cases h
  · cases h
  · cases h
  · rename_i d h1 h2 h3
    cases hd : P.underlying T with
    | none => exact absurd hd h3
    | some d' =>
      rw [Sem.run_bind, run_underlying hd w]
      cases d' <;> simp_all

section
variable {P : Program} {ops : Array Oper} {rest : List Oper} {a : Act} {w : World} {Q : Exit → Act → World → Prop} {L : List Ent}
theorem wpl_run {o : Oper} (hw : Region.wanted o (yielded ops a.tmps) = true) {w' : World} {v : Value} (hr : (execOp a.eval o).run P w = .ok (.value v) w') (h : wpList P ops Q rest (a.put o.dst v) w') : wpList P ops Q (o :: rest) a w :=
  wpList_step fun K hK => by
    rw [if_pos hw]
    unfold Oper.wp
    rw [hr]
    exact hK _ _ h
theorem wpl_skip {o : Oper} (hw : Region.wanted o (yielded ops a.tmps) = true) {w' : World} (hr : (execOp a.eval o).run P w = .ok .skip w') (h : wpList P ops Q rest (a.put o.dst undef) w') : wpList P ops Q (o :: rest) a w :=
  wpList_step fun K hK => by
    rw [if_pos hw]
    unfold Oper.wp
    rw [hr]
    exact hK _ _ h
/-- a load of one cell. -/
theorem wpl_load {dst : Option Tmp} {T : TypeId} {x : Operand} {ty : TypeId} {pos : String} {after : Array Edge} {gd : Option (Nat × Bool)} (H : Holds w L)
    (hw : Region.wanted ⟨dst, .load T x, ty, pos, after, gd⟩ (yielded ops a.tmps) = true) {b k : Nat} (hx : a.eval x = .pointer (some ⟨b, k, none⟩)) {cs : List Value} {T' : TypeId} (hm : blk b cs T' ∈ L)
    (hs : Scalar P T) {v : Value} (hv : cs[k]? = some v) (h : wpList P ops Q rest (a.put dst v) w) : wpList P ops Q (⟨dst, .load T x, ty, pos, after, gd⟩ :: rest) a w := by
  refine wpl_run hw (v := v) (w' := w) ?_ h
  have hc : w.cell? ⟨b, k, none⟩ = some v := by rw [cell_of_row w b k _ T' (0, 0) (H.all _ hm)]; simpa using hv
  unfold execOp
  simp [hx, Instr.loadAt, Instr.sureAddr, loadVar, run_isAgg_no hs, Sem.run_bind, hc, load, Sem.run]
/-- a load of a row of cells. -/
theorem wpl_loadA {dst : Option Tmp} {T : TypeId} {x : Operand} {ty : TypeId} {pos : String} {after : Array Edge} {gd : Option (Nat × Bool)} (H : Holds w L)
    (hw : Region.wanted ⟨dst, .load T x, ty, pos, after, gd⟩ (yielded ops a.tmps) = true) {b k : Nat} (hx : a.eval x = .pointer (some ⟨b, k, none⟩)) {cs : List Value} {T' : TypeId} (hm : blk b cs T' ∈ L)
    {n : Nat} (hs : AggOf P T n) {vs : List Value} (hv : (cs.drop k).take n = vs) (hl : vs.length = n) (h : wpList P ops Q rest (a.put dst (.agg vs.toArray)) w) : wpList P ops Q (⟨dst, .load T x, ty, pos, after, gd⟩ :: rest) a w := by
  refine wpl_run hw (v := .agg vs.toArray) (w' := w) ?_ h
  obtain ⟨⟨d, hd, hr⟩, hi⟩ := aggB_spec hs
  have hc : w.rangeAt b k vs := fun j v hj => by
    rw [cell_of_row w b (k + j) _ T' (0, 0) (H.all _ hm)]
    rw [← hv, List.getElem?_take] at hj
    split at hj
    · rw [List.getElem?_drop] at hj; simpa using hj
    · cases hj
  unfold execOp
  simp only [hx, Sem.run_bind, run_loadAt_mid w b k T vs d hc hd hr (by rw [hi, hl]), Sem.run_pure, Result.andThen_ok]
/-- a store. -/
theorem wpl_store {dst : Option Tmp} {T : TypeId} {x y : Operand} {ty : TypeId} {pos : String} {after : Array Edge} {gd : Option (Nat × Bool)} (H : Holds w L)
    (hw : Region.wanted ⟨dst, .store T x y, ty, pos, after, gd⟩ (yielded ops a.tmps) = true) {b k : Nat} (hx : a.eval x = .pointer (some ⟨b, k, none⟩)) {vs : List Value} (hy : (a.eval y).cells = vs.toArray)
    {cs : List Value} {T' : TypeId} {L' : List Ent} (hm : Upd (blk b cs T') (blk b (setL cs k vs) T') L L') (hs : SizeIs P T vs.length) (h1 : vs.all (·.oneCell') = true) (hk : k + vs.length ≤ cs.length)
    (h : ∀ w', Holds w' L' → wpList P ops Q rest (a.put dst undef) w') : wpList P ops Q (⟨dst, .store T x y, ty, pos, after, gd⟩ :: rest) a w := by
  have hb := H.all _ hm.mem
  refine wpl_skip hw (w' := w.setCells b k vs) ?_ (h _ (H.store hm))
  have ht : w.there b k vs.toArray.size := fun j hj => by
    simp only [List.size_toArray] at hj
    refine ⟨?_, frozen_of_row w b (k + j) _ T' hb⟩
    rw [cell_of_row w b (k + j) _ T' (0, 0) hb]
    simp; omega
  have hr := run_storeVar_mid (P := P) w b k T vs.toArray ht (by unfold SizeIs at hs; simpa using hs) (by simpa using h1)
  have he : ∀ A : Addr, storeVar T A (a.eval y) = storeVar T A (.agg vs.toArray) := fun A => by unfold storeVar; rw [hy]; rfl
  unfold execOp
  simp only [hx, Instr.storeAt, Instr.sureAddr, Sem.run_bind, Sem.run_pure, Result.andThen_ok, he, hr]
theorem wpl_store1 {dst : Option Tmp} {T : TypeId} {x y : Operand} {ty : TypeId} {pos : String} {after : Array Edge} {gd : Option (Nat × Bool)} (H : Holds w L)
    (hw : Region.wanted ⟨dst, .store T x y, ty, pos, after, gd⟩ (yielded ops a.tmps) = true) {b k : Nat} (hx : a.eval x = .pointer (some ⟨b, k, none⟩)) {v : Value} (hy : a.eval y = v) (h1 : v.oneCell' = true)
    {cs : List Value} {T' : TypeId} {L' : List Ent} (hm : Upd (blk b cs T') (blk b (setL cs k [v]) T') L L') (hs : SizeIs P T 1) (hk : k + 1 ≤ cs.length)
    (h : ∀ w', Holds w' L' → wpList P ops Q rest (a.put dst undef) w') : wpList P ops Q (⟨dst, .store T x y, ty, pos, after, gd⟩ :: rest) a w :=
  wpl_store H hw hx (vs := [v]) (by rw [hy]; cases v <;> first | rfl | simp [Value.oneCell'] at h1) hm hs (by simp [h1]) hk h
/-- a new block, known whole. -/
theorem wpl_absorb {l : List Oper} {cs : List Value} {T : TypeId} (H : Holds w L) (h : ∀ w', Holds w' (blk w.heap.size cs T :: L) → wpList P ops Q l a w') : wpList P ops Q l a (w.alloc (.cells cs.toArray T)) := h _ (H.alloc cs T)
theorem wp_absorb {c : Code} {cs : List Value} {T : TypeId} (H : Holds w L) (h : ∀ w', Holds w' (blk w.heap.size cs T :: L) → c.wp P Q a w') : c.wp P Q a (w.alloc (.cells cs.toArray T)) := h _ (H.alloc cs T)
theorem wpl_drew {l : List Oper} (H : Holds w L) (h : ∀ w', Holds w' L → wpList P ops Q l a w') : wpList P ops Q l a w.drew := h _ H.drew
theorem wpl_drewN {l : List Oper} {n : Nat} (H : Holds w L) (h : ∀ w', Holds w' L → wpList P ops Q l a w') : wpList P ops Q l a (w.drewN n) := h _ (H.drewN n)
/-- a byte of a slice that reads. -/
theorem wpl_loadB {dst : Option Tmp} {T : TypeId} {x : Operand} {ty : TypeId} {pos : String} {after : Array Edge} {gd : Option (Nat × Bool)} (H : Holds w L)
    (hw : Region.wanted ⟨dst, .load T x, ty, pos, after, gd⟩ (yielded ops a.tmps) = true) {b o j : Nat} (hx : a.eval x = .pointer (some ⟨b, o + j, none⟩)) {n cap : Nat} {l : List UInt8}
    (hm : Gives L fun w => Rd w 1 (some ⟨b, o, none⟩) n cap (bvs l)) (hs : Scalar P T) (hj : j < n) (h : wpList P ops Q rest (a.put dst (.int .u8 ((l[j]?.getD 0).toNat : Int))) w) : wpList P ops Q (⟨dst, .load T x, ty, pos, after, gd⟩ :: rest) a w := by
  refine wpl_run hw (v := .int .u8 ((l[j]?.getD 0).toNat : Int)) (w' := w) ?_ h
  obtain ⟨b', o', e, hc⟩ := (hm w H).byte hj
  injection e with e
  injection e with e1 e2
  subst e1 e2
  unfold execOp
  simp [hx, Instr.loadAt, Instr.sureAddr, loadVar, run_isAgg_no hs, Sem.run_bind, hc, load, Sem.run]
/-- likewise where the slice begins at its block's head. -/
theorem wpl_loadB0 {dst : Option Tmp} {T : TypeId} {x : Operand} {ty : TypeId} {pos : String} {after : Array Edge} {gd : Option (Nat × Bool)} (H : Holds w L)
    (hw : Region.wanted ⟨dst, .load T x, ty, pos, after, gd⟩ (yielded ops a.tmps) = true) {b j : Nat} (hx : a.eval x = .pointer (some ⟨b, j, none⟩)) {n cap : Nat} {l : List UInt8}
    (hm : Gives L fun w => Rd w 1 (some ⟨b, 0, none⟩) n cap (bvs l)) (hs : Scalar P T) (hj : j < n) (h : wpList P ops Q rest (a.put dst (.int .u8 ((l[j]?.getD 0).toNat : Int))) w) : wpList P ops Q (⟨dst, .load T x, ty, pos, after, gd⟩ :: rest) a w :=
  wpl_loadB (o := 0) H hw (by rw [Nat.zero_add]; exact hx) hm hs hj h
end
theorem sA {α : Type _} (l : List α) (i : Nat) (a : α) : l.toArray.setIfInBounds i a = (l.set i a).toArray := List.setIfInBounds_toArray ..
theorem sB {α : Type _} {a b : α} {l : List α} : (a :: l).set 0 b = b :: l := List.set_cons_zero
theorem sC {α : Type _} {a b : α} {n : Nat} {l : List α} : (a :: l).set (n + 1) b = a :: l.set n b := List.set_cons_succ
end Go.Proofs.YtdnioigcgggdbaaGreatDoor
set_option linter.unusedVariables false
namespace Go.Proofs.YtdnioigcgggdbaaGreatDoor
open Go.RowKit

theorem Kept.imp {f g : Nat → Prop} {w w' : World} (h : Kept f w w') (hg : ∀ b, g b → f b) : Kept g w w' := ⟨h.os, h.tape, h.output, h.size, fun b hb hlt => h.block b (hg b hb) hlt⟩
theorem gives_blk {L : List Ent} {b n : Nat} {cs : List Value} {T : TypeId} (h : blk b cs T ∈ L) (hn : cs.length = n) (hl : n ≤ 1000000) : Gives L fun w => Rd w 1 (some ⟨b, 0, none⟩) n n cs := fun w H =>
  ⟨Nat.le_refl _, by simp only [maxLen]; omega, by omega, (fun h => by cases h), fun _ => ⟨b, 0, rfl, fun j _ => by rw [cell_of_row w b (0 + j) _ T (0, 0) (H.all _ h)]; simp⟩⟩
theorem run_mkR {P : Program} {t e : TypeId} {z : Value} {size bytes : Nat} (ht : P.underlying t = some (.slice e)) (hinfo : (P.info? e).map (fun i => (i.zero, i.size, i.bytes)) = some (some z, size, bytes))
    (n c : Nat) (hnc : n ≤ c) (hb : bytes * c ≤ 281474976710656) (h63 : c ≤ 9223372036854775807) (W : World) :
    (Instr.makeSlice t (.int .i64 (n : Int)) (.int .i64 (c : Int))).run P W = .ok (.slice (some ⟨W.heap.size, 0, none⟩) n c) (W.alloc (.cells (madeCells z.cells (c * size)) e)) := by
  obtain ⟨i, hi, hz, hsize, hby⟩ := info_parts hinfo
  have hb' : (i.bytes : Int) * (c : Int) ≤ 281474976710656 := by
    have h : ((i.bytes * c : Nat) : Int) ≤ 281474976710656 := by rw [hby]; omega
    rwa [Int.natCast_mul] at h
  have hr := run_make (P := P) W t e i z ht hi hz .i64 .i64 n c (by omega) (by omega) hb' (by omega)
  simp only [Int.toNat_natCast, hsize] at hr
  exact hr
theorem Holds.grown {w w' : World} {L L' : List Ent} {e : TypeId} {size : Nat} {v v' : Value} {n n' : Nat} {xs xs' : List Value} (H : Holds w L) (hm : Pull (ownE e size v n xs) L L') {base : Nat} (ho : w'.ownsRow base e size v' n' xs') (hg : w.grownBy w' v.ownBlock)
    (hb : v'.ownBlock = v.ownBlock ∨ v'.ownBlock = some w.heap.size) : Holds w' (ownE e size v' n' xs' :: L') := by
  refine Holds.set (e := ownE e size v n xs) (H.pull hm) rfl ⟨hg.os, hg.tape, hg.output, hg.size, fun b hb2 hlt => hg.block b hlt (fun h => hb2 h.symm)⟩ (own_mono ho (Nat.zero_le _)) fun b hb3 => ?_
  rcases hb with h | h
  · left; show v.ownBlock = some b; rw [← h]; exact hb3
  · right
    have : v'.ownBlock = some b := hb3
    rw [h] at this
    injection this with this
    omega
section
variable {P : Program} {ops : Array Oper} {rest : List Oper} {a : Act} {w : World} {Q : Exit → Act → World → Prop} {L : List Ent}
/-- append onto a slice of the call's own. -/
theorem wpl_app {dst : Option Tmp} {s x : Operand} {t : TypeId} {ty : TypeId} {pos : String} {after : Array Edge} {gd : Option (Nat × Bool)} (H : Holds w L)
    (hw : Region.wanted ⟨dst, .call { callee := .builtin .append, args := #[s, x], argTypes := #[t, t] }, ty, pos, after, gd⟩ (yielded ops a.tmps) = true)
    {A : Option Addr} {n cap : Nat} (hs : a.eval s = .slice A n cap) {A2 : Option Addr} {m c : Nat} (hx : a.eval x = .slice A2 m c) {e : TypeId} {size : Nat} {xs : List Value} {L' : List Ent} (hm : Pull (ownE e size (.slice A n cap) n xs) L L')
    {ys : List Value} (hr : Gives L fun w => Rd w size A2 m c ys) {z : Value} {bytes : Nat} (ht : P.underlying t = some (.slice e)) (hinfo : (P.info? e).map (fun i => (i.zero, i.size, i.bytes)) = some (some z, size, bytes))
    (hzs : z.cells.size = size) (hsz : 0 < size) (h1 : ∀ u ∈ ys, u.oneCell' = true) (h63 : n + m ≤ maxLen) (hbytes : (n + m) * bytes ≤ 140737488355328)
    (h : ∀ A' n' cap' w', Hid (n' = n + m) → Holds w' (ownE e size (.slice A' n' cap') n' (xs ++ ys) :: L') → n' ≤ cap' → cap' ≤ 9223372036854775807 → wpList P ops Q rest (a.put dst (.slice A' n' cap')) w') :
    wpList P ops Q (⟨dst, .call { callee := .builtin .append, args := #[s, x], argTypes := #[t, t] }, ty, pos, after, gd⟩ :: rest) a w := by
  obtain ⟨i, hi, hz, hsize, hby⟩ := info_parts hinfo
  obtain ⟨A', n', cap', w', hrun, h2, h3, h4, h5⟩ := run_append_rd (P := P) 0 t ty e i z size bytes ht hi hz hsize hby hzs hsz (H.all _ hm.mem) (hr w H) h1 h63 hbytes (Nat.zero_le _)
  refine wpList_step fun K hK => ?_
  rw [if_pos hw]
  unfold Oper.wp execOp
  simp only [resolve, invoke, builtin, Sem.run_bind, Sem.run_pure, Result.andThen_ok, List.map_toArray, List.map_cons, List.map_nil, hs, hx, hrun]
  exact hK _ _ (h A' n' cap' w' h2 (H.grown hm h3 h4 h5) (own_le h3).1 (own_le h3).2)
/-- make of a row of values of one cell. -/
theorem wpl_make1 {dst : Option Tmp} {l cp : Operand} {t : TypeId} {ty : TypeId} {pos : String} {after : Array Edge} {gd : Option (Nat × Bool)} (H : Holds w L) (n c : Nat)
    (hw : Region.wanted ⟨dst, .makeSlice t l cp, ty, pos, after, gd⟩ (yielded ops a.tmps) = true) {e : TypeId} {z : Value} {bytes : Nat} (ht : P.underlying t = some (.slice e)) (hinfo : (P.info? e).map (fun i => (i.zero, i.size, i.bytes)) = some (some z, 1, bytes)) (hz1 : z.cells = #[z])
    {N C : Int} (hl : a.eval l = .int .i64 N) (hN : N = (n : Int)) (hc : a.eval cp = .int .i64 C) (hC : C = (c : Int)) (hnc : n ≤ c) (hb : bytes * c ≤ 281474976710656) (h63 : c ≤ 9223372036854775807) (hmx : c ≤ maxLen)
    (h : ∀ b w', Holds w' (ownE e 1 (.slice (some ⟨b, 0, none⟩) n c) n (List.replicate n z) :: L) → wpList P ops Q rest (a.put dst (.slice (some ⟨b, 0, none⟩) n c)) w') :
    wpList P ops Q (⟨dst, .makeSlice t l cp, ty, pos, after, gd⟩ :: rest) a w := by
  subst hN hC
  have hr := run_mkR (P := P) ht hinfo n c hnc hb h63 w
  have hZ : (madeCells z.cells (c * 1)) = (List.replicate c z).toArray := by
    apply Array.ext'
    rw [hz1]
    rw [show (#[z] : Array Value) = (List.replicate 1 z).toArray from rfl]
    simp [madeCells, Nat.mod_one]
    rw [show (List.map (fun _ => z) (List.range c)) = List.replicate c z from by apply List.ext_getElem <;> simp]
  refine wpl_run hw (v := .slice (some ⟨w.heap.size, 0, none⟩) n c) (w' := w.alloc (.cells (List.replicate c z).toArray e)) ?_ (h w.heap.size _ (H.new_own ((Ext.refl w).alloc _) ?_))
  · rw [hZ] at hr
    unfold execOp
    simp only [hl, hc, Sem.run_bind, hr, Result.andThen_ok, Sem.run_pure]
  · refine ⟨by simp, .inr ⟨w.heap.size, c, _, rfl, Nat.le_refl _, heap_alloc_new w _, hnc, hmx, by simp, ?_⟩⟩
    simp [Nat.min_eq_left hnc]
/-- a store into a cell of a slice of the call's own. -/
theorem wpl_storeO {dst : Option Tmp} {T : TypeId} {x y : Operand} {ty : TypeId} {pos : String} {after : Array Edge} {gd : Option (Nat × Bool)} (H : Holds w L)
    (hw : Region.wanted ⟨dst, .store T x y, ty, pos, after, gd⟩ (yielded ops a.tmps) = true) {b j : Nat} (hx : a.eval x = .pointer (some ⟨b, j, none⟩)) {v : Value} (hy : a.eval y = v) (h1 : v.oneCell' = true)
    {e : TypeId} {n n' cap : Nat} {xs : List Value} {L' : List Ent} (hm : Upd (ownE e 1 (.slice (some ⟨b, 0, none⟩) n cap) n' xs) (ownE e 1 (.slice (some ⟨b, 0, none⟩) n cap) n' (xs.set j v)) L L') (hs : SizeIs P T 1) (hj : j < n')
    (h : ∀ w', Holds w' L' → wpList P ops Q rest (a.put dst undef) w') : wpList P ops Q (⟨dst, .store T x y, ty, pos, after, gd⟩ :: rest) a w := by
  have ho : w.ownsRow 0 e 1 (.slice (some ⟨b, 0, none⟩) n cap) n' xs := H.all _ hm.mem
  obtain ⟨hl, h2⟩ := ho
  rcases h2 with ⟨hv, hn⟩ | ⟨g, c, cur, hv, hg, hh, hnc, hcm, hcs, htake⟩
  · cases hv
  have hgc : g = b ∧ c = cap := by
    injection hv with e1 e2 e3
    injection e1 with e1
    injection e1 with e1
    exact ⟨e1.symm, e3.symm⟩
  obtain ⟨rfl, rfl⟩ := hgc
  have hjc : j < cur.size := by omega
  have hcells : v.cells = #[v] := by cases v <;> first | rfl | simp [Value.oneCell'] at h1
  have hcell : (w.cell? ⟨g, j, none⟩).isSome = true := by rw [cell_of_row w g j cur e (0, 0) hh, Array.getElem?_eq_getElem hjc]; rfl
  have hr := run_storeVar_mid (P := P) w g j T #[v] (fun k hk => by
    obtain rfl : k = 0 := by simpa using hk
    exact ⟨hcell, frozen_of_row w g (j + 0) cur e hh⟩) (by unfold SizeIs at hs; simpa using hs) (by simp [h1])
  have he : ∀ A : Addr, storeVar T A v = storeVar T A (.agg #[v]) := fun A => by unfold storeVar; rw [hcells]; rfl
  have hheap := heap_setCell_same w g j cur e v hh
  refine wpl_skip hw (w' := w.setCells g j [v]) ?_ (h _ (H.upd hm rfl ((kept_setCells (b := g) [v] j w (.refl _ w)).imp fun b hb hb2 => hb (by rw [hb2]; rfl)) ?_ fun _ hb => .inl hb))
  · unfold execOp
    simp only [hx, hy, Instr.storeAt, Instr.sureAddr, Sem.run_bind, Sem.run_pure, Result.andThen_ok, he, hr]
  · refine ⟨by simpa using hl, .inr ⟨g, c, _, hv, hg, hheap, hnc, hcm, by simpa using hcs, ?_⟩⟩
    have : (cur.setIfInBounds j v).toList = cur.toList.set j v := by simp
    rw [this, ← htake]
    rw [List.take_set]
end
end Go.Proofs.YtdnioigcgggdbaaGreatDoor
