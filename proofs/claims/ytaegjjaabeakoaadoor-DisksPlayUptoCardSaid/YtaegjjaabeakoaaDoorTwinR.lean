/-
  A copy with a mark behind it: as an entry, as it reads, and as a slice of the call's own once it has been looked at.
-/
import Derived.Test.YtaegjjaabeakoaaDoorLeft
import Derived.Test.YtaegjjaabeakoaaDoorBook8
import Derived.Test.YtaegjjaabeakoaaDoorSameK
set_option linter.unusedVariables false
set_option linter.unusedSimpArgs false
namespace Go.Proofs.YtaegjjaabeakoaaDoor
open Go.RowKit

/-- a copy: its bytes, and the mark behind them. -/
def twE (b n c : Nat) (l : List UInt8) : Ent := ownE 5 1 (.slice (some ⟨b, 0, none⟩) (n + 1) c) (n + 1) (bvs (l ++ [77]))
section
variable {W : World} {L L' L0 : List Ent} {R : Ending → World → Prop} {b n c : Nat} {l : List UInt8}
theorem gives_tw1 (h : twE b n c l ∈ L) : Gives L fun w => Rd w 1 (some ⟨b, 0, none⟩) (n + 1) c (bvs (l ++ [77])) := gives_own h rfl
theorem gives_tw (h : twE b n c l ∈ L) (hl : l.length = n) : Gives L fun w => Rd w 1 (some ⟨b, 0, none⟩) n c (bvs l) := (gives_tw1 h).imp fun w h => by
  have hle := h.le
  have := h.cut 0 n c (by omega) (by omega) (by omega) (by omega)
  rw [if_neg (by omega), Option.map_some, Nat.mul_one, Nat.mul_one, Nat.sub_zero, List.drop_zero, ← bvs_take, List.take_left' hl] at this
  simpa [add_mk] using this
theorem tw_k {A : Option Addr} {cap : Nat} (hr : Gives L fun w => Rd w 1 A n cap (bvs l)) (hn : n ≤ 1000000) (H : Holds W L)
    (k : ∀ b c w', Holds w' (twE b n c l :: L) → R (.returned (.slice (some ⟨b, 0, none⟩) n c)) w') :
    Calls Tryd.prog 7 #[.slice A n cap] W R := by
  refine (twin_h H hr (by omega)).mono ?_
  rintro e w' ⟨b, c, rfl, -, h⟩
  exact k b c w' h
theorem Holds.tw_row (H : Holds W L) (hl : l.length = n) (u : Upd (twE b n c l) (rowE 5 (some ⟨b, 0, none⟩) n c (bvs l)) L L') : Holds W L' := by
  obtain ⟨M, h1, h2⟩ := u.split
  have h3 := Holds.shrink (m := n) (H.pull h1) (by omega)
  rw [← bvs_take, List.take_left' hl] at h3
  exact h3.to_row.perm h2.perm.symm
theorem leftT_k {A2 : Option Addr} {c2 : Nat} (hn : n ≤ 1000000) (hl : l.length = n) (H : Holds W L) (u : Upd (twE b n c l) (rowE 5 (some ⟨b, 0, none⟩) n c (bvs l)) L L') (G2 : Gives L fun w => Rd w 1 A2 n c2 (bvs l)) (k : ∀ w', Holds w' L' → R (.returned (.bool true)) w') :
    Calls Tryd.prog 28 #[.slice (some ⟨b, 0, none⟩) n c, .slice A2 n c2] W R :=
  leftB_k hn (gives_tw1 u.mem) G2 H fun w' h => k w' (h.tw_row hl u)
theorem sameR_k {A1 A2 : Option Addr} {n1 c1 n2 c2 : Nat} (h1 : Gives L fun w => Rd w 1 A1 n1 c1 (bvs l)) (h2 : Gives L fun w => Rd w 1 A2 n2 c2 (bvs l)) (H : Holds W L) (k : ∀ w', Holds w' L → R (.returned (.bool true)) w') :
    Calls Tryd.prog 10 #[.slice A1 n1 c1, .slice A2 n2 c2] W R := same_k h1 h2 H fun w' h => by rw [decide_eq_true rfl]; exact k w' h
end
theorem rd_base {W0 : World} {A : Option Addr} {n c : Nat} {l : List UInt8} (hr : Rd W0 1 A n c (bvs l)) (L : List Ent) (hm : base W0 ∈ L) : Gives L fun w => Rd w 1 A n c (bvs l) := fun w H => hr.ext (H.all _ hm)
end Go.Proofs.YtaegjjaabeakoaaDoor
