/-
  disks: a slice cut to so many, whatever it is; one write of a law, read.
-/
import Derived.Test.YtaegjjaabeakoaaDkF
set_option linter.unusedVariables false
set_option linter.unusedSimpArgs false
namespace Go.Proofs.Ytaegjjaabeakoaa
open Go.RowKit

theorem run_sliceHi {w : World} {B : Option Addr} {m d q : Nat} {h : Int} (hh : h = (q : Int)) (hq : q ≤ d) (hB : B = none → d = 0) :
    (Instr.sliceAt 22 (.slice B m d) none (some (.int .i64 h)) none).run Try.prog w = .ok (.slice B q d) w := by
  subst hh
  have hu : Try.prog.underlying 22 = some (.slice (Try.prog.elem 22)) := by kernel_rfl
  have h0 : (0 : Int) ≤ (q : Int) := by omega
  have h1 : ((q : Nat) : Int) ≤ (d : Nat) := by omega
  have hs : ∀ w, (sizeOf (Try.prog.elem 22)).run Try.prog w = .ok 1 w := fun w => by kernel_rfl
  rw [run_sliceAt_slice _ _ _ _ _ _ hu, run_slice_h _ _ _ _ _ hu _ _ h0 h1, hs]
  simp only [Result.andThen, sliced, Int.toNat_natCast, Nat.sub_zero, Nat.zero_mul]
  rcases B with _ | ⟨b, o, f⟩
  · rw [hB rfl]; rfl
  · split
    · rfl
    · rfl
theorem yields_sliceHi {J : World → Prop} {ops : Array Oper} {a : Act} {dst : Option Tmp} {x t : Operand} {ty : TypeId} {pos : String} {after : Array Edge} {gd : Option (Nat × Bool)} (hw : Region.wanted ⟨dst, .slice 22 x none (some t) none, ty, pos, after, gd⟩ (yielded ops a.tmps) = true) {B : Option Addr} {m d q : Nat} {h : Int}
    (hx : a.eval x = .slice B m d) (ht : a.eval t = .int .i64 h) (hh : h = (q : Int)) (hq : q ≤ d) (hB : B = none → d = 0) : YieldsIf Try.prog ops J ⟨dst, .slice 22 x none (some t) none, ty, pos, after, gd⟩ (.slice B q d) a := .inl ⟨hw, fun w _ => by
  unfold execOp
  simp only [hx, ht, Option.map_none, Option.map_some, Sem.run_bind, run_sliceHi hh hq hB, Result.andThen_ok, Sem.run_pure]⟩
theorem wpl_loadVs {P : Program} {L : List Ent} {ops : Array Oper} {rest : List Oper} {a : Act} {w : World} {Q : Exit → Act → World → Prop} {dst : Option Tmp} {T : TypeId} {x : Operand} {ty : TypeId} {pos : String} {after : Array Edge} {gd : Option (Nat × Bool)} (H : Holds w L) (hw : Region.wanted ⟨dst, .load T x, ty, pos, after, gd⟩ (yielded ops a.tmps) = true) {b o j : Nat} (hx : a.eval x = .pointer (some ⟨b, o + j, none⟩)) {n cap size : Nat} {vs : List Value}
    (hm : Gives L fun w => Rd w size (some ⟨b, o, none⟩) n cap vs) (hs : Scalar P T) (hj : j < n * size) {v : Value} (hv : vs[j]? = some v) (h : wpList P ops Q rest (a.put dst v) w) : wpList P ops Q (⟨dst, .load T x, ty, pos, after, gd⟩ :: rest) a w := by
  rcases yields_loadVs (P := P) (ops := ops) hw hx hm hs hj hv with ⟨h1, h2⟩ | ⟨h1, -⟩
  · exact wpl_run hw (h2 w H) h
  · rw [hw] at h1; cases h1
theorem min64 (m : Nat) : (if (m : Int) < 64 then (m : Int) else 64) = ((min m 64 : Nat) : Int) := by split <;> omega
theorem take_min64 {b : List UInt8} {m : Nat} (h : b.length = m) : b.take (min m 64) = b.take 64 := by
  subst h
  rcases Nat.le_total b.length 64 with h | h
  · rw [Nat.min_eq_left h, List.take_of_length_le (Nat.le_refl _), List.take_of_length_le h]
  · rw [Nat.min_eq_right h]
section
variable {W : World} {L L' L0 : List Ent} {R : Ending → World → Prop}
theorem gives_sub {B0 : Ent} {p : World → Prop} (h : Gives [B0] p) (hm : B0 ∈ L) : Gives L p := fun w H => h w ⟨fun e he => by
  obtain rfl := List.mem_singleton.1 he
  exact H.all _ hm, List.pairwise_singleton _ _⟩
/-- one write of a law's list. -/
structure Item (B0 : Ent) (n c : Nat) (hs : List Value) (k : Nat) (N : UInt8) (b : List UInt8) (B : Option Addr) (m d a1 o1 : Nat) : Prop where
  num : hs[k * 2]? = some (Value.int .u8 ((N.toNat : Nat) : Int))
  val : hs[k * 2 + 1]? = some (Value.slice B m d)
  nil : B = none → d = 0
  md : m ≤ d
  top : d ≤ 9223372036854775807
  len : b.length = m
  head : ∀ L, B0 ∈ L → Gives L fun w => Rd w 2 (some ⟨a1, o1, none⟩) n c hs
  cut : ∀ L, B0 ∈ L → Gives L fun w => Rd w 1 B (min m 64) d (bvs (b.take 64))
theorem RdW.item {B0 : Ent} {A : Option Addr} {n c : Nat} {hs : List Value} {ws : List (UInt8 × List UInt8)} (h1 : ∀ L, B0 ∈ L → RdW L A n c hs ws) (H : Holds W L) (hm : B0 ∈ L) {k : Nat} (hk : k < n) :
    ∃ N b B m d a1 o1, ws[k]? = some (N, b) ∧ A = some ⟨a1, o1, none⟩ ∧ Item B0 n c hs k N b B m d a1 o1 := by
  have hW := h1 [B0] (.head _)
  have hl := hW.len
  obtain ⟨⟨N, b⟩, hx⟩ : ∃ x, ws[k]? = some x := ⟨_, List.getElem?_eq_getElem (by omega)⟩
  obtain ⟨B, m, d, hh, gb⟩ := hW.at_ k _ hx
  have hb := gives_sub gb hm W H
  obtain ⟨a1, o1, rfl, -⟩ := (gives_sub hW.head hm W H).at_ (by omega)
  have ht := hb.top
  unfold maxLen at ht
  refine ⟨N, b, B, m, d, a1, o1, hx, rfl, hW.num k _ hx, hh, hb.nil, hb.le, by omega, hb.blen, fun L hL => gives_sub hW.head hL, fun L hL w hw => ?_⟩
  rw [← take_min64 hb.blen]
  exact (gives_sub gb hL w hw).takeTo (Nat.min_le_left _ _)
end
end Go.Proofs.Ytaegjjaabeakoaa
