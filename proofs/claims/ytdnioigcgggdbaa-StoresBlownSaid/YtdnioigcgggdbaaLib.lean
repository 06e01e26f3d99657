/-
  Words for memory that this work's proofs share: a slice that reads as a list of cells or bytes, a slice of the call's own, worlds that only grow. Nothing of the program stands here.
-/
import Derived.WalkKit
import Derived.WalkSpells
import Derived.WalkLawsBesides
import Derived.Deep.QuietTactic
import Derived.BigQuiet
import Derived.Lib.Hide
import Derived.Maps.AppendAt
namespace Go.Proofs.Ytdnioigcgggdbaa
open Go.RowKit

/-! ### worlds that only grow -/
/-- w' is w with new blocks, old ones unchanged. -/
def Ext (w w' : World) : Prop := Below w.heap.size w w'
theorem Ext.refl (w : World) : Ext w w := Below.refl _ w
theorem Ext.size {w w' : World} (h : Ext w w') : w.heap.size ≤ w'.heap.size := Below.size h
theorem Ext.trans {a b c : World} (h : Ext a b) (k : Ext b c) : Ext a c := Below.trans h (Below.mono k h.size)
theorem Ext.below {w w' : World} (h : Ext w w') : Below w.heap.size w w' := h
theorem Ext.of {w w' : World} (h : Below w.heap.size w w') : Ext w w' := h
theorem Ext.drewN {a w : World} (h : Ext a w) (n : Nat) : Ext a (w.drewN n) := ⟨h.os, h.tape, h.output, h.size, h.block⟩
theorem Ext.drew {a w : World} (h : Ext a w) : Ext a w.drew := Below.drew h
theorem Ext.alloc {a w : World} (h : Ext a w) (o : Obj) : Ext a (w.alloc o) := Below.alloc h h.size o
theorem Ext.setCell {a w : World} (h : Ext a w) {p : Addr} (hp : a.heap.size ≤ p.block) (u : Value) : Ext a (w.setCell p u) := Below.setCell h hp u
theorem Ext.grown {a w w' : World} {row : Option Nat} (h : Ext a w) (hg : w.grownBy w' row) (hr : ∀ k, row = some k → a.heap.size ≤ k) : Ext a w' := Below.grown h hg h.size hr
theorem below_drewN {B : Nat} {a w : World} (h : Below B a w) (n : Nat) : Below B a (w.drewN n) := ⟨h.os, h.tape, h.output, h.size, h.block⟩
theorem below_ext {B : Nat} {a w w' : World} (h : Below B a w) (k : Ext w w') (hB : B ≤ w.heap.size) : Below B a w' := h.trans (Below.mono k hB)

/-! ### bytes -/
def bv (b : UInt8) : Value := .int .u8 (b.toNat : Int)
def bvs (l : List UInt8) : List Value := l.map bv
theorem bvs_length (l : List UInt8) : (bvs l).length = l.length := by simp [bvs]
theorem bvs_append (a b : List UInt8) : bvs (a ++ b) = bvs a ++ bvs b := by simp [bvs]
theorem bvs_getElem? (l : List UInt8) (j : Nat) : (bvs l)[j]? = (l[j]?).map bv := by simp [bvs]
theorem bvs_drop (l : List UInt8) (k : Nat) : bvs (l.drop k) = (bvs l).drop k := by simp [bvs]
theorem bvs_take (l : List UInt8) (k : Nat) : bvs (l.take k) = (bvs l).take k := by simp [bvs]
theorem bvs_oneCell (l : List UInt8) : ∀ u ∈ bvs l, u.oneCell' = true := by
  intro u hu; obtain ⟨b, _, rfl⟩ := List.mem_map.1 hu; rfl
theorem bv_inj {a b : UInt8} (h : bv a = bv b) : a = b := by
  unfold bv at h; injection h with _ h; exact UInt8.toNat.inj (by omega)
theorem bvs_inj : ∀ {a b : List UInt8}, bvs a = bvs b → a = b
  | [], [], _ => rfl
  | [], _ :: _, h => by simp [bvs] at h
  | _ :: _, [], h => by simp [bvs] at h
  | x :: a, y :: b, h => by
    simp only [bvs, List.map_cons, List.cons.injEq] at h
    rw [bv_inj h.1, bvs_inj (a := a) (b := b) h.2]

/-! ### a slice that reads -/
theorem add_mk (b o j : Nat) : (⟨b, o, none⟩ : Addr).add j = ⟨b, o + j, none⟩ := by unfold Addr.add; split <;> simp_all

/-- The slice value '.slice a n cap', size cells each, reads as the cells xs. -/
structure Rd (w : World) (size : Nat) (a : Option Addr) (n cap : Nat) (xs : List Value) : Prop where
  le : n ≤ cap
  top : cap ≤ maxLen
  len : xs.length = n * size
  nil : a = none → cap = 0
  at_ : 0 < n → ∃ b o, a = some ⟨b, o, none⟩ ∧ ∀ j, j < n * size → w.cell? ⟨b, o + j, none⟩ = xs[j]?

section
variable {w w' : World} {size n cap : Nat} {a : Option Addr} {xs : List Value}
theorem Rd.nil_ (w : World) (size : Nat) : Rd w size none 0 0 [] := ⟨Nat.le_refl _, by simp [maxLen], by simp, fun _ => rfl, fun h => absurd h (by omega)⟩
theorem Rd.keep (h : Rd w size a n cap xs) (hk : ∀ b o j, a = some ⟨b, o, none⟩ → b < w.heap.size → w'.cell? ⟨b, o + j, none⟩ = w.cell? ⟨b, o + j, none⟩) : Rd w' size a n cap xs :=
  ⟨h.le, h.top, h.len, h.nil, fun hn => by
    obtain ⟨b, o, rfl, hc⟩ := h.at_ hn
    refine ⟨b, o, rfl, fun j hj => ?_⟩
    have hl : j < xs.length := by rw [h.len]; exact hj
    have h1 := hc j hj
    rw [List.getElem?_eq_getElem hl] at h1
    have hb := World.block_lt_of_cell? w ⟨b, o + j, none⟩ h1
    rw [hk b o j rfl hb, hc j hj]⟩
theorem Rd.ext (h : Rd w size a n cap xs) (he : Ext w w') : Rd w' size a n cap xs := h.keep fun _ _ _ _ hb => Below.cell he hb
theorem Rd.drewN (h : Rd w size a n cap xs) (k : Nat) : Rd (w.drewN k) size a n cap xs := h.keep fun _ _ _ _ _ => rfl
theorem Rd.drew (h : Rd w size a n cap xs) : Rd w.drew size a n cap xs := h.keep fun _ _ _ _ _ => rfl
theorem Rd.alloc (h : Rd w size a n cap xs) (o : Obj) : Rd (w.alloc o) size a n cap xs := h.ext ((Ext.refl w).alloc o)
theorem Rd.grown {row : Option Nat} (h : Rd w size a n cap xs) (hg : w.grownBy w' row) (hr : ∀ q, a = some q → some q.block ≠ row) : Rd w' size a n cap xs :=
  h.keep fun b _ _ ha hb => World.cell?_of_block (hg.block b hb (hr _ ha))
theorem Rd.of_own {base : Nat} {e : TypeId} (h : w.ownsRow base e size (.slice a n cap) n xs) : Rd w size a n cap xs := by
  obtain ⟨hl, h2⟩ := h
  rcases h2 with ⟨hv, hn⟩ | ⟨g, c, cur, hv, hg, hh, hnc, hcm, hcs, htake⟩
  · injection hv with h1 h2 h3
    subst h1; subst h2; subst h3
    exact ⟨Nat.le_refl _, by simp [maxLen], hl, (fun _ => rfl), (fun h => absurd h (by omega))⟩
  · injection hv with h1 h2 h3
    subst h1; subst h3
    refine ⟨hnc, hcm, hl, (fun h => by cases h), fun _ => ⟨g, 0, rfl, fun j hj => ?_⟩⟩
    rw [cell_of_row w g (0 + j) cur e (0, 0) hh, ← htake, List.getElem?_take, if_pos (by omega)]
    simp
/-- A piece of what reads. -/
theorem Rd.cut (h : Rd w size a n cap xs) (lo hi m : Nat) (h1 : lo ≤ hi) (h2 : hi ≤ n) (h3 : hi ≤ m) (h4 : m ≤ cap) :
    Rd w size (if m = lo then a else a.map (·.add (lo * size))) (hi - lo) (m - lo) ((xs.drop (lo * size)).take ((hi - lo) * size)) := by
  have hle : hi * size ≤ n * size := Nat.mul_le_mul_right _ h2
  have hsub : (hi - lo) * size = hi * size - lo * size := Nat.sub_mul _ _ _
  have hlo : lo * size ≤ hi * size := Nat.mul_le_mul_right _ h1
  refine ⟨by omega, by have := h.top; omega, ?_, ?_, ?_⟩
  · rw [List.length_take, List.length_drop, h.len]; omega
  · intro hn
    split at hn
    · have := h.nil hn; omega
    · cases a with
      | none => have := h.nil rfl; omega
      | some p => simp at hn
  · intro hn
    obtain ⟨b, o, rfl, hc⟩ := h.at_ (by omega)
    rw [if_neg (by omega)]
    refine ⟨b, o + lo * size, by simp [add_mk], fun j hj => ?_⟩
    rw [Nat.add_assoc, hc _ (by omega), List.getElem?_take, if_pos hj, List.getElem?_drop]
end

/-- byte k of a slice of bytes. -/
theorem Rd.byte {w : World} {a : Option Addr} {n cap : Nat} {l : List UInt8} (h : Rd w 1 a n cap (bvs l)) {k : Nat} (hk : k < n) :
    ∃ b o, a = some ⟨b, o, none⟩ ∧ w.cell? ⟨b, o + k, none⟩ = some (.int .u8 ((l[k]?.getD 0).toNat : Int)) := by
  obtain ⟨b, o, rfl, hc⟩ := h.at_ (by omega)
  have hl : l.length = n := by have := h.len; rw [bvs_length] at this; omega
  refine ⟨b, o, rfl, ?_⟩
  rw [hc k (by omega), bvs_getElem?, List.getElem?_eq_getElem (by omega)]
  rfl
theorem Rd.blen {w : World} {a : Option Addr} {n cap : Nat} {l : List UInt8} (h : Rd w 1 a n cap (bvs l)) : l.length = n := by
  have := h.len; rw [bvs_length] at this; omega
theorem byte_lt (b : UInt8) : (b.toNat : Int) < 256 := by have := b.toNat_lt; omega

/-! ### append onto a slice of the call's own -/
section
variable {P : Program} {w : World}
theorem run_append_rd (base : Nat) (t ty e : TypeId) (i : TypeInfo) (z : Value) (size bytes : Nat) (ht : P.underlying t = some (.slice e)) (hi : P.info? e = some i) (hz : i.zero = some z)
    (hsize : i.size = size) (hby : i.bytes = bytes) (hzs : z.cells.size = size) (hsz : 0 < size)
    {A : Option Addr} {n cap : Nat} {xs : List Value} (hown : w.ownsRow base e size (.slice A n cap) n xs)
    {A2 : Option Addr} {m c : Nat} {ys : List Value} (hr : Rd w size A2 m c ys) (h1 : ∀ u ∈ ys, u.oneCell' = true)
    (h63 : n + m ≤ maxLen) (hbytes : (n + m) * bytes ≤ 140737488355328) (hbase : base ≤ w.heap.size) :
    ∃ A' n' cap' w', (Builtin.append_ #[t, t] ty #[.slice A n cap, .slice A2 m c]).run P w = .ok (.slice A' n' cap') w' ∧ n' = n + m ∧ w'.ownsRow base e size (.slice A' n' cap') n' (xs ++ ys) ∧
      w.grownBy w' (Value.slice A n cap).ownBlock ∧ ((Value.slice A' n' cap').ownBlock = (Value.slice A n cap).ownBlock ∨ (Value.slice A' n' cap').ownBlock = some w.heap.size) := by
  cases A2 with
  | none =>
    obtain rfl : c = 0 := hr.nil rfl
    obtain rfl : m = 0 := by have := hr.le; omega
    obtain rfl : ys = [] := List.eq_nil_of_length_eq_zero (by simpa using hr.len)
    refine ⟨A, n, cap, w, ?_, rfl, by simpa using hown, World.grownBy.refl w _, .inl rfl⟩
    rcases hown.2 with ⟨hv, rfl⟩ | ⟨g, cap', cur, hv, _, _, hnc, _⟩
    · injection hv with e1 e2 e3
      subst e1; subst e3
      simp [Builtin.append_, run_underlying ht, sizeOf, typeInfo, hi, Builtin.lenOf, Builtin.firstCells]
    · injection hv with e1 e2 e3
      subst e1; subst e3
      simp [Builtin.append_, run_underlying ht, sizeOf, typeInfo, hi, Builtin.lenOf, Builtin.firstCells, hnc, storeCells]
  | some ad =>
    have hcells : ∀ j u, ys[j]? = some u → w.cell? (ad.add j) = some u := by
      intro j u hu
      have hj : j < ys.length := (List.getElem?_eq_some_iff.1 hu).1
      rw [hr.len] at hj
      rcases Nat.eq_zero_or_pos m with rfl | hm
      · simp at hj
      · obtain ⟨b, o, e1, hc⟩ := hr.at_ hm
        injection e1 with e1
        subst e1
        rw [add_mk, hc j hj, hu]
    obtain ⟨v', w', hrun, h2, h3, _, h5⟩ := run_append_own_at (P := P) w base t ty e i z size bytes ht hi hz hsize hby hzs hsz _ n xs hown ad m c ys hr.len hcells h1 h63 hbytes hbase
    rcases h2.2 with ⟨rfl, h0⟩ | ⟨g, cap', cur, rfl, r⟩
    · exact ⟨none, n + m, 0, w', by rw [hrun, h0], rfl, by rw [h0] at h2 ⊢; exact h2, h3, by simpa [Value.ownBlock] using h5⟩
    · exact ⟨_, _, _, w', hrun, rfl, h2, h3, by simpa [Value.ownBlock] using h5⟩

theorem wpl_append {ops : Array Oper} {rest : List Oper} {o : Oper} {a : Act} {Q : Exit → Act → World → Prop} (hgd : o.guard = none) (s x : Operand) (t : TypeId)
    (ho : o.op = .call { callee := .builtin .append, args := #[s, x], argTypes := #[t, t] })
    {e : TypeId} {z : Value} {size bytes : Nat} (ht : P.underlying t = some (.slice e)) (hinfo : (P.info? e).map (fun i => (i.zero, i.size, i.bytes)) = some (some z, size, bytes))
    (hzs : z.cells.size = size) (hsz : 0 < size)
    {A : Option Addr} {n cap : Nat} (hs : a.eval s = .slice A n cap) {A2 : Option Addr} {m c : Nat} (hx : a.eval x = .slice A2 m c)
    {base : Nat} {xs ys : List Value} (hown : w.ownsRow base e size (.slice A n cap) n xs) (hr : Rd w size A2 m c ys) (h1 : ∀ u ∈ ys, u.oneCell' = true)
    (h63 : n + m ≤ maxLen) (hbytes : (n + m) * bytes ≤ 140737488355328) (hbase : base ≤ w.heap.size)
    (h : ∀ A' n' cap' w', Hid (n' = n + m) → w'.ownsRow base e size (.slice A' n' cap') n' (xs ++ ys) → w.grownBy w' (Value.slice A n cap).ownBlock →
      ((Value.slice A' n' cap').ownBlock = (Value.slice A n cap).ownBlock ∨ (Value.slice A' n' cap').ownBlock = some w.heap.size) → wpList P ops Q rest (a.put o.dst (.slice A' n' cap')) w') : wpList P ops Q (o :: rest) a w := by
  obtain ⟨i, hi, hz, hsize, hby⟩ := info_parts hinfo
  obtain ⟨A', n', cap', w', hrun, h2, h3, h4, h5⟩ := run_append_rd (P := P) base t o.type e i z size bytes ht hi hz hsize hby hzs hsz hown hr h1 h63 hbytes hbase
  refine wpList_plain hgd fun K hK => ?_
  unfold Oper.wp execOp
  simp only [ho, resolve, invoke, builtin, Sem.run_bind, Sem.run_pure, Result.andThen_ok, List.map_toArray, List.map_cons, List.map_nil, hs, hx, hrun]
  exact hK _ _ (h A' n' cap' w' h2 h3 h4 h5)
end
theorem own_block_ge {w : World} {base : Nat} {e : TypeId} {size n : Nat} {v : Value} {xs : List Value} (h : w.ownsRow base e size v n xs) : ∀ k, v.ownBlock = some k → base ≤ k := fun k hk => (h.lt k hk).1

/-! ### slicing, as equations of the operation's run -/
section
variable {P : Program} {t e : TypeId} {size : Nat} {w : World} {a : Option Addr} {n cap : Nat} {xs : List Value}
theorem cut_lh (ht : P.underlying t = some (.slice e)) (hs : (P.info? e).map (·.size) = some size) (h : Rd w size a n cap xs) (kl kh : IntKind) (lo hi : Nat) (h1 : lo ≤ hi) (h2 : hi ≤ n) :
    ∃ a' n' cap', (∀ W, (Instr.slice t (.slice a n cap) (some (.int kl (lo : Int))) (some (.int kh (hi : Int))) none).run P W = .ok (.slice a' n' cap') W) ∧ n' = hi - lo ∧ cap' = cap - lo ∧
      Rd w size a' n' cap' ((xs.drop (lo * size)).take ((hi - lo) * size)) := by
  obtain ⟨i, hi', hz⟩ := Option.map_eq_some_iff.1 hs
  have hle := h.le
  refine ⟨_, _, _, fun W => ?_, rfl, rfl, h.cut lo hi cap h1 h2 (by omega) (Nat.le_refl _)⟩
  have e2 : hi ≤ cap := by omega
  simp [Instr.slice, run_underlying ht, Instr.sliceBounds, Instr.sliceBound, asIntOf, h1, e2, sizeOf, typeInfo, hi', hz]
theorem cut_h (ht : P.underlying t = some (.slice e)) (hs : (P.info? e).map (·.size) = some size) (h : Rd w size a n cap xs) (kh : IntKind) (hi : Nat) (h2 : hi ≤ n) :
    ∃ a' n' cap', (∀ W, (Instr.slice t (.slice a n cap) none (some (.int kh (hi : Int))) none).run P W = .ok (.slice a' n' cap') W) ∧ n' = hi ∧ cap' = cap ∧ Rd w size a' n' cap' (xs.take (hi * size)) := by
  obtain ⟨i, hi', hz⟩ := Option.map_eq_some_iff.1 hs
  have hle := h.le
  have hr := h.cut 0 hi cap (by omega) h2 (by omega) (Nat.le_refl _)
  simp only [Nat.zero_mul, List.drop_zero, Nat.sub_zero] at hr
  refine ⟨_, _, _, fun W => ?_, rfl, rfl, hr⟩
  have e2 : hi ≤ cap := by omega
  simp [Instr.slice, run_underlying ht, Instr.sliceBounds, Instr.sliceBound, asIntOf, e2, sizeOf, typeInfo, hi']
theorem cut_l (ht : P.underlying t = some (.slice e)) (hs : (P.info? e).map (·.size) = some size) (h : Rd w size a n cap xs) (kl : IntKind) (lo : Nat) (h1 : lo ≤ n) :
    ∃ a' n' cap', (∀ W, (Instr.slice t (.slice a n cap) (some (.int kl (lo : Int))) none none).run P W = .ok (.slice a' n' cap') W) ∧ n' = n - lo ∧ cap' = cap - lo ∧ Rd w size a' n' cap' (xs.drop (lo * size)) := by
  obtain ⟨i, hi', hz⟩ := Option.map_eq_some_iff.1 hs
  have hle := h.le
  have hr := h.cut lo n cap h1 (Nat.le_refl _) hle (Nat.le_refl _)
  rw [List.take_of_length_le (by rw [List.length_drop, h.len, Nat.sub_mul]; omega)] at hr
  refine ⟨_, _, _, fun W => ?_, rfl, rfl, hr⟩
  simp [Instr.slice, run_underlying ht, Instr.sliceBounds, Instr.sliceBound, asIntOf, h1, sizeOf, typeInfo, hi', hz]
end

theorem own_shape {w : World} {base : Nat} {e : TypeId} {size n : Nat} {v : Value} {xs : List Value} (h : w.ownsRow base e size v n xs) : ∃ A cap, v = .slice A n cap := by
  rcases h.2 with ⟨rfl, rfl⟩ | ⟨g, cap, cur, rfl, _⟩
  · exact ⟨_, _, rfl⟩
  · exact ⟨_, _, rfl⟩
theorem own_mono {w : World} {base base' : Nat} {e : TypeId} {size n : Nat} {v : Value} {xs : List Value} (h : w.ownsRow base' e size v n xs) (hb : base ≤ base') : w.ownsRow base e size v n xs := by
  refine ⟨h.1, ?_⟩
  rcases h.2 with h2 | ⟨g, cap, cur, h3, h4, r⟩
  · exact .inl h2
  · exact .inr ⟨g, cap, cur, h3, Nat.le_trans hb h4, r⟩
theorem own_ext {w w' : World} {base : Nat} {e : TypeId} {size n : Nat} {v : Value} {xs : List Value} (h : w.ownsRow base e size v n xs) (hx : Ext w w') : w'.ownsRow base e size v n xs := by
  refine ⟨h.1, ?_⟩
  rcases h.2 with h2 | ⟨g, cap, cur, h3, h4, h5, r⟩
  · exact .inl h2
  · exact .inr ⟨g, cap, cur, h3, h4, (Below.block hx g (Array.getElem?_eq_some_iff.1 h5).1).trans h5, r⟩
end Go.Proofs.Ytdnioigcgggdbaa
