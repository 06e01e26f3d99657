/-
  What an argument that is a slice of bytes reads as. Nothing of the program stands here.
  What an argument reads as: an array of bytes, and a slice of such arrays. Nothing of the program stands here.
-/
import Derived.Test.YtdnioigcgggdbaaLib
import Derived.OpenShut
import Derived.Deep.Slices
set_option linter.unusedVariables false
set_option linter.unusedSimpArgs false
namespace Go.Proofs.Ytdnioigcgggdbaa
open Go.RowKit

theorem u8_of_wf {z : Int} (h : (Lit.int .u8 z).wf = true) : ((UInt8.ofNat z.toNat).toNat : Int) = z := by
  have := bounds_u8 h
  rw [UInt8.toNat_ofNat']; omega
theorem rd_of_ints {W : World} {x : Addr} {len cap : Nat} {zs : List Int} (hl : len ≤ cap) (hm : cap ≤ maxLen) (hz : zs.length = cap) (hcell : ∀ i, i < zs.length → W.cell? (x.add i) = some (.int .u8 (zs.getD i 0))) (hwz : ∀ n ∈ zs, (Lit.int .u8 n).wf = true) :
    ∃ l, Rd W 1 (some x) len cap (bvs l) := by
  refine ⟨(zs.take len).map fun z => UInt8.ofNat z.toNat, hl, hm, by simp [bvs]; omega, (fun h => by cases h), fun hp => ?_⟩
  obtain ⟨b, o, rfl, hc⟩ := ints_at hcell (by omega)
  refine ⟨b, o, rfl, fun j hj => ?_⟩
  have hj' : j < zs.length := by omega
  rw [hc j hj', bvs_getElem?, List.getElem?_map, List.getElem?_take, if_pos (by omega), List.getElem?_eq_getElem hj', List.getD_eq_getElem?_getD, List.getElem?_eq_getElem hj']
  simp only [Option.getD_some, Option.map_some]
  unfold bv
  rw [u8_of_wf (hwz _ (List.getElem_mem hj'))]
end Go.Proofs.Ytdnioigcgggdbaa
namespace Go.Proofs.Ytdnioigcgggdbaa
open Go.RowKit Go.ChangeShapes Go.WideShapes

section
variable {H : Type} {enc : TypeId × Value → H} {P : Program} {W : World} {base : Nat} {spare : Nat → Bool} {held : Bool}
theorem trod_bytes {t e : TypeId} {n fuel : Nat} {cs : List Value} {x : DataW H × List MemPlace} (ht : P.underlying t = some (.array n e)) (he : P.underlying e = some (.int .u8)) (hc : P.cellsOf e = 1) (hn : P.cellsOf t = n)
    (h : DataW.trod enc P W base spare held fuel t cs = some x) : ∃ l : List UInt8, cs = bvs l ∧ l.length = n := by
  obtain ⟨xs, m, -, -, hlen, hxn, hel⟩ := DataW.trod_array ht h
  rw [hn] at hlen
  obtain ⟨f, hf⟩ := Deep.choose_lt (α := Int) (n := n) (p := fun i z => cs[i]? = some (.int .u8 z) ∧ (Lit.int .u8 z).wf = true) (fun i hi => by
    have h1 := hel i hi
    rw [hc, Nat.mul_one, List.getElem?_eq_getElem (show i < xs.length by omega)] at h1
    obtain ⟨z, h2, -, h3⟩ := DataW.trod_int he h1
    refine ⟨z, ?_, h3⟩
    have h4 := congrArg (·[0]?) h2
    simpa [List.getElem?_take, List.getElem?_drop] using h4)
  refine ⟨(List.range n).map fun i => UInt8.ofNat (f i).toNat, ?_, by simp⟩
  apply List.ext_getElem?
  intro i
  rw [bvs_getElem?]
  by_cases hi : i < n
  · rw [(hf i hi).1, List.getElem?_map, List.getElem?_range hi]
    simp only [Option.map_some]
    unfold bv
    rw [u8_of_wf (hf i hi).2]
  · rw [List.getElem?_eq_none (by omega), List.getElem?_eq_none (by simp; omega)]
    rfl
/-- A slice of arrays of n bytes. -/
theorem rd_of_arrays {t s e : TypeId} {n fuel : Nat} {a : Option Addr} {len cap : Nat} {x : DataW H × List MemPlace} (hs : P.underlying s = some (.slice t)) (ht : P.underlying t = some (.array n e)) (he : P.underlying e = some (.int .u8)) (hc : P.cellsOf e = 1) (hn : P.cellsOf t = n) (h0 : 0 < n)
    (h : DataW.trod enc P W base (fun _ => true) held fuel s [.slice a len cap] = some x) : ∃ l, Rd W n a len cap (bvs l) := by
  rcases Deep.open_slice hs h with ⟨hcs, _⟩ | ⟨ad, len', cap', m, k, D, Pl, hcs, hb, hl, hm, hmm, hx, hel⟩
  · simp at hcs
    obtain ⟨rfl, rfl, rfl⟩ := hcs
    exact ⟨[], Rd.nil_ _ _⟩
  · simp at hcs
    obtain ⟨rfl, rfl, rfl⟩ := hcs
    simp only [↓reduceIte] at hmm
    subst hmm
    rw [hn] at hel
    obtain ⟨f, hf⟩ := Deep.choose_lt (α := List UInt8) (n := m) (p := fun i l => l.length = n ∧ ∀ j, j < n → W.cell? (ad.add (i * n + j)) = (l[j]?).map bv) (fun i hi => by
      obtain ⟨cs', h1, h2⟩ := hel i hi
      obtain ⟨l, rfl, hl'⟩ := trod_bytes ht he hc hn h2
      refine ⟨l, hl', fun j hj => ?_⟩
      obtain ⟨_, _, h3⟩ := World.cells?_some h1
      rw [← Deep.add_add, h3 j hj, bvs_getElem?])
    have cell : ∀ j, j < m * n → ∃ b : UInt8, W.cell? (ad.add j) = some (bv b) := fun j hj => by
      have hq : j / n < m := Nat.div_lt_of_lt_mul (by rw [Nat.mul_comm]; exact hj)
      have hr := Nat.mod_lt j h0
      obtain ⟨h1, h2⟩ := hf _ hq
      have h3 := h2 _ hr
      rw [Nat.div_add_mod'] at h3
      exact ⟨_, by rw [h3, List.getElem?_eq_getElem (by omega)]; rfl⟩
    obtain ⟨g, hg⟩ := Deep.choose_lt (α := UInt8) (p := fun j b => W.cell? (ad.add j) = some (bv b)) cell
    refine ⟨(List.range (len * n)).map g, hl, hm, by simp [bvs], (fun h => by cases h), fun hp => ?_⟩
    have hle : len * n ≤ m * n := Nat.mul_le_mul_right _ hl
    have hp' : 0 < len * n := Nat.mul_pos hp h0
    obtain ⟨b, o, spot⟩ := ad
    have hspot : spot = none := by simpa [Addr.add] using World.cell?_spot (hg 0 (by omega))
    subst hspot
    refine ⟨b, o, rfl, fun j hj => ?_⟩
    rw [← Go.WideShapes.add_plain, hg j (by omega), bvs_getElem?, List.getElem?_map, List.getElem?_range hj]
    rfl
end
end Go.Proofs.Ytdnioigcgggdbaa
