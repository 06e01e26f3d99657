/-
  EventsFits: the walk, as the statement's frame wants it.
-/
import Derived.Test.YtnpcpmiomimphaaDoorEv8
set_option linter.unusedVariables false
namespace Go.Proofs.YtnpcpmiomimphaaDoor
open Go.RowKit

def needV : List Value := needL.map (Value.int .i64)
theorem laid_of {W : World} (h : ∀ (i : Nat) v, needV[i]? = some v → W.cell? ⟨0, i, none⟩ = some v) : Laid W := fun k hk => by
  have hk' : k < needL.length := hk
  refine h k _ ?_
  unfold needV need
  rw [List.getElem?_map, List.getElem?_eq_getElem hk', List.getD_eq_getElem?_getD, List.getElem?_eq_getElem hk']
  rfl
theorem nat_of {z : Int} (h : 0 ≤ z) : ∃ n : Nat, z = n := ⟨z.toNat, by omega⟩
theorem wf_of {k : Nat} {i p a0 a1 a2 b0 b1 b2 n m : Int} (w0 : (Lit.int .u8 k).wf = true) (w1 : (Lit.int .u32 i).wf = true) (w2 : (Lit.int .u32 p).wf = true) (w3 : (Lit.int .u64 a0).wf = true) (w4 : (Lit.int .u64 a1).wf = true) (w5 : (Lit.int .u64 a2).wf = true) (w6 : (Lit.int .u64 b0).wf = true) (w7 : (Lit.int .u64 b1).wf = true) (w8 : (Lit.int .u64 b2).wf = true) (w9 : (Lit.int .u64 n).wf = true) (w10 : (Lit.int .u64 m).wf = true) : (Ask.mk k i p a0 a1 a2 b0 b1 b2 n m).Wf := by
  have h0 := bounds_u8 w0
  have h1 := bounds_u32 w1
  have h2 := bounds_u32 w2
  have h3 := bounds_u64 w3
  have h4 := bounds_u64 w4
  have h5 := bounds_u64 w5
  have h6 := bounds_u64 w6
  have h7 := bounds_u64 w7
  have h8 := bounds_u64 w8
  have h9 := bounds_u64 w9
  have h10 := bounds_u64 w10
  constructor <;> simp only <;> omega
theorem fits_walk (W : World) (k : Int) (w0 : (Lit.int .u8 k).wf = true) (i : Int) (w1 : (Lit.int .u32 i).wf = true) (p : Int) (w2 : (Lit.int .u32 p).wf = true) (a0 : Int) (w3 : (Lit.int .u64 a0).wf = true) (a1 : Int) (w4 : (Lit.int .u64 a1).wf = true) (a2 : Int) (w5 : (Lit.int .u64 a2).wf = true)
    (b0 : Int) (w6 : (Lit.int .u64 b0).wf = true) (b1 : Int) (w7 : (Lit.int .u64 b1).wf = true) (b2 : Int) (w8 : (Lit.int .u64 b2).wf = true) (n : Int) (w9 : (Lit.int .u64 n).wf = true) (m : Int) (w10 : (Lit.int .u64 m).wf = true) (wh : Int) (w11 : (Lit.int .u8 wh).wf = true)
    (hl : ∀ (i : Nat) v, needV[i]? = some v → W.cell? ⟨0, i, none⟩ = some v) :
    Calls Tryd.prog 5 #[.agg #[.int .u8 k, .int .u32 i, .int .u32 p, .int .u64 a0, .int .u64 a1, .int .u64 a2, .int .u64 b0, .int .u64 b1, .int .u64 b2, .int .u64 n, .int .u64 m], .int .u8 wh] W fun e w' => e = .returned (.bool true) ∧ Ext W w' := by
  have h0 := bounds_u8 w0
  have h11 := bounds_u8 w11
  obtain ⟨k, rfl⟩ := nat_of (z := k) (by omega)
  exact (fitsLaw k i p a0 a1 a2 b0 b1 b2 n m wh (by omega) (by omega) (wf_of w0 w1 w2 w3 w4 w5 w6 w7 w8 w9 w10) (holds_laid (laid_of hl))).mono fun e w' h => ⟨h.1, h.2.tail.head⟩
end Go.Proofs.YtnpcpmiomimphaaDoor
