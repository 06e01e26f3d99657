/-
  events: Get of any bytes.
-/
import Derived.Test.YtnpcpmiomimphaaDoorEv4
set_option linter.unusedVariables false
namespace Go.Proofs.YtnpcpmiomimphaaDoor
open Go.RowKit

/-- what 66 bytes say. -/
def evOf (l : List UInt8) : Ask := ⟨(l[0]?.getD 0).toNat, numAt l 2 4, numAt l 6 4, numAt l 10 8, numAt l 18 8, numAt l 26 8, numAt l 34 8, numAt l 42 8, numAt l 50 8, numAt l 58 8, 0⟩
def evE (l : List UInt8) : Nat := (l[1]?.getD 0).toNat
theorem evOf_wf (l : List UInt8) : (evOf l).Wf := by
  have n4 := fun a => numAt_lt l a 4
  have n8 := fun a => numAt_lt l a 8
  have hb := byte_lt (l[0]?.getD 0)
  constructor <;> simp only [evOf] <;> first | omega | exact ⟨by omega, by have := n4 2; omega⟩ | exact ⟨by omega, by have := n4 6; omega⟩ | exact ⟨by omega, by have := n8 10; omega⟩ | exact ⟨by omega, by have := n8 18; omega⟩ | exact ⟨by omega, by have := n8 26; omega⟩ | exact ⟨by omega, by have := n8 34; omega⟩ | exact ⟨by omega, by have := n8 42; omega⟩ | exact ⟨by omega, by have := n8 50; omega⟩ | exact ⟨by omega, by have := n8 58; omega⟩
/-- what Get answers: cells and error. -/
def getEv (l : List UInt8) : List Value × Int :=
  if l.length < 66 then (ev0.toList, 5) else if 66 < l.length then (ev0.toList, 4) else if (evOf l).may (evE l) then ((evOf l).cells ++ [Value.int .i64 (evE l)], 0) else (ev0.toList, 4)
/-- **events.Get** -/
theorem evGet_any (A : Option Addr) (n cap : Nat) (l : List UInt8) (w : World) (hla : Laid w) (hr : Rd w 1 A n cap (bvs l)) :
    Calls Tryd.prog 10 #[.slice A n cap] w fun e w' => e = .returned (.tuple #[.agg (getEv l).1.toArray, .int .i64 (getEv l).2]) ∧ Ext w w' := by
  have hl := hr.blen
  unfold getEv
  rw [hl]
  by_cases h1 : n < 66
  · rw [if_pos h1]
    exact evGet_short A n cap w h1 hr.top hr.le
  · rw [if_neg h1]
    by_cases h2 : 66 < n
    · rw [if_pos h2]
      exact evGet_long A n cap w h2 hr.top hr.le
    · rw [if_neg h2]
      obtain rfl : n = 66 := by omega
      refine (evGet_full A cap l w hla hr _ _ _ _ _ _ _ _ _ _ _ _ rfl rfl rfl rfl rfl rfl rfl rfl rfl rfl rfl (evOf_wf l) rfl).mono ?_
      rintro e w' ⟨rfl, hx⟩
      refine ⟨?_, hx⟩
      change Ending.returned (Value.tuple (if (evOf l).may (evE l) = true then _ else _)) = _
      split <;> rfl
end Go.Proofs.YtnpcpmiomimphaaDoor
