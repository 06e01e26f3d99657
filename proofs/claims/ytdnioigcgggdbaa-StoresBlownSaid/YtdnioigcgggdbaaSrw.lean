/-
  Rows of bytes that may be clipped, each the call's own, behind their headers: one entry for all of them.
-/
import Derived.Test.YtdnioigcgggdbaaBook1
import Derived.Test.YtdnioigcgggdbaaRws
set_option linter.unusedVariables false
set_option linter.unusedSimpArgs false
namespace Go.Proofs.Ytdnioigcgggdbaa
open Go.RowKit

def srE (x : Option Addr × Nat) (s : List UInt8) : Ent := rowE 5 x.1 s.length x.2 (bvs s)
def srsE (q : List (Option Addr × Nat)) (ls : List (List UInt8)) : Ent := packE (List.zipWith srE q ls) (q.length = ls.length)
theorem srz_own {q : List (Option Addr × Nat)} {ls : List (List UInt8)} : ∀ e ∈ List.zipWith srE q ls, e.own = true := by
  intro e he
  obtain ⟨j, hj⟩ := List.mem_iff_getElem?.1 he
  rw [List.getElem?_zipWith] at hj
  split at hj
  · cases hj; rfl
  · cases hj
section
variable {W : World} {L L' L0 : List Ent} {R : Ending → World → Prop} {q : List (Option Addr × Nat)} {ls : List (List UInt8)}
theorem srs_new (H : Holds W L) : Holds W (srsE [] [] :: L) := Holds.pack (l := []) H rfl (by intro e he; cases he)
theorem srs_add {x : Option Addr × Nat} {s : List UInt8} (H : Holds W (srE x s :: srsE q ls :: L)) : Holds W (srsE (q ++ [x]) (ls ++ [s]) :: L) := by
  have H1 := H.perm (List.Perm.swap _ _ _)
  obtain ⟨hl, H2⟩ := H1.unpack
  refine Holds.pack ?_ (by rw [List.length_append, List.length_append, hl]; rfl) srz_own
  rw [List.zipWith_append hl]
  refine H2.perm ?_
  rw [List.append_assoc]
  exact .refl _
theorem srs_len (H : Holds W L) (h : srsE q ls ∈ L) : q.length = ls.length := (H.all _ h).1
theorem gives_srs {j : Nat} {x : Option Addr × Nat} {s : List UInt8} (h : srsE q ls ∈ L) (hq : q[j]? = some x) (hj : ls[j]? = some s) : Gives L fun w => Rd w 1 x.1 s.length x.2 (bvs s) :=
  fun w H => row_rd ((H.all _ h).2.all (srE x s) (List.mem_of_getElem? (i := j) (by rw [List.getElem?_zipWith, hq, hj])))
theorem zip_rhS {q : List (Option Addr × Nat)} {ls : List (List UInt8)} {j : Nat} {x : Option Addr × Nat} {s : List UInt8} (hx : q[j]? = some x) (hs : ls[j]? = some s) : (List.zipWith rh q ls)[j]? = some (rh x s) := by
  rw [List.getElem?_zipWith, hx, hs]
end
end Go.Proofs.Ytdnioigcgggdbaa
