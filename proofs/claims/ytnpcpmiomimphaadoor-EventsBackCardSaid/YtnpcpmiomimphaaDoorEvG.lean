/-
  EventsAgain and EventsBack: the walks, as the statements' frames want them.
-/
import Derived.Test.YtnpcpmiomimphaaDoorEvF
import Derived.Test.YtnpcpmiomimphaaDoorOpen
set_option linter.unusedVariables false
namespace Go.Proofs.YtnpcpmiomimphaaDoor
open Go.RowKit
theorem again_walk (W : World) (A : Option Addr) (nn cap : Nat) (l : List UInt8) (hr : Rd W 1 A nn cap (bvs l)) (hl : ∀ (i : Nat) v, needV[i]? = some v → W.cell? ⟨0, i, none⟩ = some v) :
    Calls Tryd.prog 4 #[.slice A nn cap] W fun e w' => e = .returned (.bool true) ∧ Ext W w' := by
  exact (again (holds_laid (laid_of hl)) (fun w h => hr.ext h.tail.head)).mono fun e w' h => ⟨h.1, h.2.head⟩
theorem back_walk (W : World) (k : Int) (wk : (Lit.int .u8 k).wf = true) (i : Int) (wi : (Lit.int .u32 i).wf = true) (p : Int) (wp : (Lit.int .u32 p).wf = true) (a0 : Int) (wa0 : (Lit.int .u64 a0).wf = true) (a1 : Int) (wa1 : (Lit.int .u64 a1).wf = true) (a2 : Int) (wa2 : (Lit.int .u64 a2).wf = true) (b0 : Int) (wb0 : (Lit.int .u64 b0).wf = true) (b1 : Int) (wb1 : (Lit.int .u64 b1).wf = true) (b2 : Int) (wb2 : (Lit.int .u64 b2).wf = true) (n : Int) (wn : (Lit.int .u64 n).wf = true) (m : Int) (wm : (Lit.int .u64 m).wf = true) (e : Int) (we : (Lit.int .i64 e).wf = true) (at_ : Int) (wat : (Lit.int .u8 at_).wf = true) (y : Int) (wy : (Lit.int .u8 y).wf = true) (hl : ∀ (i : Nat) v, needV[i]? = some v → W.cell? ⟨0, i, none⟩ = some v) :
    Calls Tryd.prog 3 #[.agg #[.int .u8 k, .int .u32 i, .int .u32 p, .int .u64 a0, .int .u64 a1, .int .u64 a2, .int .u64 b0, .int .u64 b1, .int .u64 b2, .int .u64 n, .int .u64 m, .int .i64 e], .int .u8 at_, .int .u8 y] W fun e w' => e = .returned (.bool true) ∧ Ext W w' := by
  have h0 := bounds_u8 wk
  have h1 := bounds_u8 wat
  obtain ⟨k, rfl⟩ := nat_of (z := k) (by omega)
  obtain ⟨j, hj⟩ := nat_of (z := at_ % 66) (by omega)
  have hy := u8_of_wf wy
  cases hm : (Ask.mk k i p a0 a1 a2 b0 b1 b2 n m).may e with
  | false => exact (back_no k i p a0 a1 a2 b0 b1 b2 n m e at_ y ⟨(wf_of wk wi wp wa0 wa1 wa2 wb0 wb1 wb2 wn wm), hm⟩ (holds_laid (laid_of hl))).mono fun e w' h => ⟨h.1, h.2.head⟩
  | true => exact (back_yes k i p a0 a1 a2 b0 b1 b2 n m e at_ j _ y hy.symm (by omega) (by omega) hj ⟨(wf_of wk wi wp wa0 wa1 wa2 wb0 wb1 wb2 wn wm), hm⟩ (holds_laid (laid_of hl))).mono fun e w' h => ⟨h.1, h.2.head⟩
end Go.Proofs.YtnpcpmiomimphaaDoor
