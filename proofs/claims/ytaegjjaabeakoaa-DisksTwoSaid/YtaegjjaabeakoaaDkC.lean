/-
  disks: written.
-/
import Derived.Test.YtaegjjaabeakoaaDkB
set_option linter.unusedVariables false
set_option linter.unusedSimpArgs false
namespace Go.Proofs.Ytaegjjaabeakoaa
open Go.RowKit

/-- a slice of Write (N uint8, B []byte: two cells each) reads as a list. -/
structure RdW (L : List Ent) (A : Option Addr) (n c : Nat) (hs : List Value) (ws : List (UInt8 × List UInt8)) : Prop where
  head : Gives L fun w => Rd w 2 A n c hs
  len : ws.length = n
  num : ∀ (j : Nat) (x : UInt8 × List UInt8), ws[j]? = some x → hs[j * 2]? = some (Value.int .u8 ((x.1.toNat : Nat) : Int))
  at_ : ∀ (j : Nat) (x : UInt8 × List UInt8), ws[j]? = some x → ∃ (B : Option Addr) (m k : Nat), hs[j * 2 + 1]? = some (Value.slice B m k) ∧ Gives L fun w => Rd w 1 B m k (bvs x.2)
/-- one write of a law: to sector N mod 5, of 64 bytes at most. -/
def Dd.put5 (d : Dd) (x : UInt8 × List UInt8) : Dd := ⟨d.su, d.no.set (x.1.toNat % 5) (padS (x.2.take 64)), d.wa ++ [(x.1.toNat % 5, padS (x.2.take 64))], d.lf, d.bl⟩
/-- the first k writes, all made sure behind so many. -/
def writtenD (ws : List (UInt8 × List UInt8)) (sure : Int) : Nat → Dd
  | 0 => dnew (List.replicate 5 zsec)
  | k + 1 => match ws[k]? with
    | some x => (if (k : Int) = sure then (writtenD ws sure k).settle else writtenD ws sure k).put5 x
    | none => writtenD ws sure k
structure Dd.Live (d : Dd) (k : Nat) : Prop where
  lf : d.lf = -1
  bl : d.bl = false
  su : d.su.length = 5
  no : d.no.length = 5
  wa : d.wa.length ≤ k
theorem live_new : (dnew (List.replicate 5 zsec)).Live 0 := ⟨rfl, rfl, by simp [dnew], by simp [dnew], by simp [dnew]⟩
theorem Dd.Live.settle {d : Dd} {k : Nat} (h : d.Live k) : d.settle.Live k := ⟨h.lf, h.bl, h.no, h.no, Nat.zero_le _⟩
theorem Dd.Live.put5 {d : Dd} {k : Nat} (h : d.Live k) (x : UInt8 × List UInt8) : (d.put5 x).Live (k + 1) := ⟨h.lf, h.bl, h.su, by simp [Dd.put5, h.no], by simp [Dd.put5, h.wa]⟩
theorem live_written (ws : List (UInt8 × List UInt8)) (S : Int) : ∀ k, (writtenD ws S k).Live k
  | 0 => live_new
  | k + 1 => by
    have h := live_written ws S k
    unfold writtenD
    split
    · split
      · exact h.settle.put5 _
      · exact h.put5 _
    · exact ⟨h.lf, h.bl, h.su, h.no, Nat.le_succ_of_le h.wa⟩
theorem Dd.Live.spent {d : Dd} {k : Nat} (h : d.Live k) : spentB d.lf d.bl = false := by rw [h.lf, h.bl]; rfl
theorem Dd.Live.spend {d : Dd} {k : Nat} (h : d.Live k) : d.spend = d := by
  obtain ⟨su, no, wa, lf, bl⟩ := d
  obtain ⟨h1, h2, -, -, -⟩ := h
  simp only at h1 h2
  subst h1 h2
  rfl
end Go.Proofs.Ytaegjjaabeakoaa
