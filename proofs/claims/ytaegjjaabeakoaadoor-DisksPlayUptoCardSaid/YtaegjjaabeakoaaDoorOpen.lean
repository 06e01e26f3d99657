/-
  What an argument that is a slice of bytes reads as. Nothing of the program stands here.
-/
import Derived.Test.YtaegjjaabeakoaaDoorLib
import Derived.OpenShut
namespace Go.Proofs.YtaegjjaabeakoaaDoor
open Go.RowKit

theorem u8_of_wf {z : Int} (h : (Lit.int .u8 z).wf = true) : ((UInt8.ofNat z.toNat).toNat : Int) = z := by
  have := bounds_u8 h
  rw [UInt8.toNat_ofNat']; omega
theorem rd_of_ints {W : World} {x : Addr} {len cap : Nat} {zs : List Int} (hl : len ≤ cap) (hm : cap ≤ maxLen) (hz : zs.length = cap) (hcell : ∀ i, i < zs.length → W.cell? (x.add i) = some (.int .u8 (zs.getD i 0))) (hwz : ∀ n ∈ zs, (Lit.int .u8 n).wf = true) :
    ∃ l, Rd W 1 (some x) len cap (bvs l) := by
  refine ⟨(zs.take len).map fun z => UInt8.ofNat z.toNat, hl, hm, by simp [bvs]; omega, (fun h => by cases h), fun hp => ?_⟩
  obtain ⟨b, o, rfl, hc⟩ := ints_at hcell (by omega)
  refine ⟨b, o, rfl, fun j hj => ?_⟩
  have hj' : j < zs.length := by omega
  rw [hc j hj', bvs_getElem?, List.getElem?_map, List.getElem?_take, if_pos (by omega), List.getElem?_eq_getElem hj', List.getD_eq_getElem?_getD, List.getElem?_eq_getElem hj']
  simp only [Option.getD_some, Option.map_some]
  unfold bv
  rw [u8_of_wf (hwz _ (List.getElem_mem hj'))]
end Go.Proofs.YtaegjjaabeakoaaDoor
