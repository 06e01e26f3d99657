/-
  EventsUnlike: the walk, as the statement's frame wants it.
-/
import Derived.Test.YtnpcpmiomimphaaDoorEvC
set_option linter.unusedVariables false
namespace Go.Proofs.YtnpcpmiomimphaaDoor
open Go.RowKit
theorem unlike_walk (W : World) (k : Int) (wk : (Lit.int .u8 k).wf = true) (i : Int) (wi : (Lit.int .u32 i).wf = true) (p : Int) (wp : (Lit.int .u32 p).wf = true) (a0 : Int) (wa0 : (Lit.int .u64 a0).wf = true) (a1 : Int) (wa1 : (Lit.int .u64 a1).wf = true) (a2 : Int) (wa2 : (Lit.int .u64 a2).wf = true) (b0 : Int) (wb0 : (Lit.int .u64 b0).wf = true) (b1 : Int) (wb1 : (Lit.int .u64 b1).wf = true) (b2 : Int) (wb2 : (Lit.int .u64 b2).wf = true) (n : Int) (wn : (Lit.int .u64 n).wf = true) (m : Int) (wm : (Lit.int .u64 m).wf = true) (e : Int) (we : (Lit.int .i64 e).wf = true) (k' : Int) (wk' : (Lit.int .u8 k').wf = true) (i' : Int) (wi' : (Lit.int .u32 i').wf = true) (p' : Int) (wp' : (Lit.int .u32 p').wf = true) (a0' : Int) (wa0' : (Lit.int .u64 a0').wf = true) (a1' : Int) (wa1' : (Lit.int .u64 a1').wf = true) (a2' : Int) (wa2' : (Lit.int .u64 a2').wf = true) (b0' : Int) (wb0' : (Lit.int .u64 b0').wf = true) (b1' : Int) (wb1' : (Lit.int .u64 b1').wf = true) (b2' : Int) (wb2' : (Lit.int .u64 b2').wf = true) (n' : Int) (wn' : (Lit.int .u64 n').wf = true) (m' : Int) (wm' : (Lit.int .u64 m').wf = true) (e' : Int) (we' : (Lit.int .i64 e').wf = true) (hl : ∀ (i : Nat) v, needV[i]? = some v → W.cell? ⟨0, i, none⟩ = some v) :
    Calls Tryd.prog 6 #[.agg #[.int .u8 k, .int .u32 i, .int .u32 p, .int .u64 a0, .int .u64 a1, .int .u64 a2, .int .u64 b0, .int .u64 b1, .int .u64 b2, .int .u64 n, .int .u64 m, .int .i64 e], .agg #[.int .u8 k', .int .u32 i', .int .u32 p', .int .u64 a0', .int .u64 a1', .int .u64 a2', .int .u64 b0', .int .u64 b1', .int .u64 b2', .int .u64 n', .int .u64 m', .int .i64 e']] W fun e w' => e = .returned (.bool true) ∧ Ext W w' := by
  have h0 := bounds_u8 wk
  have h1 := bounds_u8 wk'
  obtain ⟨k, rfl⟩ := nat_of (z := k) (by omega)
  obtain ⟨k', rfl⟩ := nat_of (z := k') (by omega)
  exact (unlike k i p a0 a1 a2 b0 b1 b2 n m e k' i' p' a0' a1' a2' b0' b1' b2' n' m' e' (wf_of wk wi wp wa0 wa1 wa2 wb0 wb1 wb2 wn wm) (wf_of wk' wi' wp' wa0' wa1' wa2' wb0' wb1' wb2' wn' wm') (holds_laid (laid_of hl))).mono fun e w' h => ⟨h.1, h.2.head⟩
end Go.Proofs.YtnpcpmiomimphaaDoor
