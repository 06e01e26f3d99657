/-
  events: the contracts of Put and Get, and of lives and SameBytes, as the walks of the laws want them.
-/
import Derived.Test.YtnpcpmiomimphaaDoorEvA
import Derived.Test.YtnpcpmiomimphaaDoorEqStr
set_option linter.unusedVariables false
namespace Go.Proofs.YtnpcpmiomimphaaDoor
open Go.RowKit

theorem put_no {k : Nat} {i p a0 a1 a2 b0 b1 b2 n m e : Int} {w : World} {L : List Ent} (H : Holds w L) (hl : laidE ∈ L) (hx : (Ask.mk k i p a0 a1 a2 b0 b1 b2 n m).Wf ∧ (Ask.mk k i p a0 a1 a2 b0 b1 b2 n m).may e = false) :
    Calls Tryd.prog 8 #[.agg #[.int .u8 k, .int .u32 i, .int .u32 p, .int .u64 a0, .int .u64 a1, .int .u64 a2, .int .u64 b0, .int .u64 b1, .int .u64 b2, .int .u64 n, .int .u64 m, .int .i64 e]] w fun r w' => r = .returned (.tuple #[.slice none 0 0, .int .i64 1]) ∧ Holds w' L := by
  refine (evPut_any (Ask.mk k i p a0 a1 a2 b0 b1 b2 n m) e hx.1 w (H.all _ hl)).mono ?_
  rintro r w' (⟨-, rfl, h⟩ | ⟨h, -⟩)
  · exact ⟨rfl, H.ext h⟩
  · rw [hx.2] at h; cases h
theorem put_yes {k : Nat} {i p a0 a1 a2 b0 b1 b2 n m e : Int} {w : World} {L : List Ent} (H : Holds w L) (hl : laidE ∈ L) (hx : (Ask.mk k i p a0 a1 a2 b0 b1 b2 n m).Wf ∧ (Ask.mk k i p a0 a1 a2 b0 b1 b2 n m).may e = true) :
    Calls Tryd.prog 8 #[.agg #[.int .u8 k, .int .u32 i, .int .u32 p, .int .u64 a0, .int .u64 a1, .int .u64 a2, .int .u64 b0, .int .u64 b1, .int .u64 b2, .int .u64 n, .int .u64 m, .int .i64 e]] w fun r w' => ∃ A c, r = .returned (.tuple #[.slice A 66 c, .int .i64 0]) ∧ Holds w' (ownE 5 1 (.slice A 66 c) 66 (bvs (evB (Ask.mk k i p a0 a1 a2 b0 b1 b2 n m) e)) :: L) := by
  refine (evPut_any (Ask.mk k i p a0 a1 a2 b0 b1 b2 n m) e hx.1 w (H.all _ hl)).mono ?_
  rintro r w' (⟨h, -⟩ | ⟨-, A, c, rfl, ho, hxt⟩)
  · rw [hx.2] at h; cases h
  · exact ⟨A, c, rfl, H.new_own hxt ho⟩
theorem get_h {A : Option Addr} {n cap : Nat} {l : List UInt8} {cs : List Value} {e : Int} {w : World} {L : List Ent} (H : Holds w L) (hl : laidE ∈ L) (hr : Gives L fun w => Rd w 1 A n cap (bvs l)) (hg : getEv l = (cs, e)) :
    Calls Tryd.prog 10 #[.slice A n cap] w fun r w' => r = .returned (.tuple #[.agg cs.toArray, .int .i64 e]) ∧ Holds w' L := by
  refine (evGet_any A n cap l w (H.all _ hl) (hr w H)).mono ?_
  rw [hg]
  exact fun r w' h => ⟨h.1, H.ext h.2⟩
theorem same_h {A1 : Option Addr} {n1 c1 : Nat} {l1 : List UInt8} {A2 : Option Addr} {n2 c2 : Nat} {l2 : List UInt8} {r : Bool} {w : World} {L : List Ent} (H : Holds w L) (h1 : Gives L fun w => Rd w 1 A1 n1 c1 (bvs l1)) (h2 : Gives L fun w => Rd w 1 A2 n2 c2 (bvs l2)) (hr : decide (l1 = l2) = r) :
    Calls Tryd.prog 12 #[.slice A1 n1 c1, .slice A2 n2 c2] w fun e w' => e = .returned (.bool r) ∧ Holds w' L := by
  subst hr
  refine (same_any A1 n1 c1 l1 A2 n2 c2 l2 w (h1 w H) (h2 w H)).mono ?_
  rintro e w' ⟨rfl, d, rfl⟩
  exact ⟨rfl, H.drewN d⟩
def evTs : List TypeId := [22, 23, 23, 24, 24, 24, 24, 24, 24, 24, 24, 29]
theorem evCells_typed (x : Ask) (e : Int) : Typed Tryd.prog evTs (x.cells ++ [Value.int .i64 e]) :=
  Typed.cons (leaf_int Tryd.underlying22 _) (Typed.cons (leaf_int Tryd.underlying23 _) (Typed.cons (leaf_int Tryd.underlying23 _) (Typed.cons (leaf_int Tryd.underlying24 _) (Typed.cons (leaf_int Tryd.underlying24 _) (Typed.cons (leaf_int Tryd.underlying24 _) (Typed.cons (leaf_int Tryd.underlying24 _) (Typed.cons (leaf_int Tryd.underlying24 _) (Typed.cons (leaf_int Tryd.underlying24 _) (Typed.cons (leaf_int Tryd.underlying24 _) (Typed.cons (leaf_int Tryd.underlying24 _) (Typed.cons (leaf_int Tryd.underlying29 _) (Typed.nil _))))))))))))
theorem cells_inj {x y : Ask} {e f : Int} (h : x.cells ++ [Value.int .i64 e] = y.cells ++ [Value.int .i64 f]) : x = y ∧ e = f := by
  obtain ⟨k, i, p, a0, a1, a2, b0, b1, b2, n, m⟩ := x
  obtain ⟨k', i', p', a0', a1', a2', b0', b1', b2', n', m'⟩ := y
  simp [Ask.cells] at h
  simp
  omega
/-- '==' and '!=' of two events. -/
theorem eq_events (x y : Ask) (e f : Int) : ∃ r : Bool, (∀ w, (binOp .eql 31 (.agg (x.cells ++ [Value.int .i64 e]).toArray) (.agg (y.cells ++ [Value.int .i64 f]).toArray)).run Tryd.prog w = .ok (.bool r) w) ∧
    (∀ w, (binOp .neq 31 (.agg (x.cells ++ [Value.int .i64 e]).toArray) (.agg (y.cells ++ [Value.int .i64 f]).toArray)).run Tryd.prog w = .ok (.bool (!r)) w) ∧ (r = true ↔ x = y ∧ e = f) := by
  obtain ⟨r, h1, h2, h3⟩ := run_eq_struct (P := Tryd.prog) (t := 31) (l := evTs) (by kernel_rfl) (by kernel_rfl) (by kernel_rfl) _ _ (evCells_typed x e) (evCells_typed y f)
  exact ⟨r, h1, h2, h3.trans ⟨cells_inj, fun h => by rw [h.1, h.2]⟩⟩
end Go.Proofs.YtnpcpmiomimphaaDoor
