/-
  stores: what stands in a region, what Open and Add come to, in plain terms.
-/
import Derived.Test.YtdnioigcgggdbaaSt6
import Derived.Test.YtdnioigcgggdbaaStm4
import Derived.Test.YtdnioigcgggdbaaDw
set_option linter.unusedVariables false
set_option linter.unusedSimpArgs false
namespace Go.Proofs.Ytdnioigcgggdbaa
open Go.RowKit
def Dd.sec (d : Dd) (i : Nat) : List UInt8 := d.no[i]?.getD []
/-- what stands in a region, one byte behind the other, of its first j sectors. -/
def flatN (d : Dd) (fr : Nat) : Nat → List UInt8
  | 0 => []
  | j + 1 => flatN d fr j ++ d.sec (fr + j)
/-- those of the first j sectors that are not all noughts. -/
def dirtyN (d : Dd) (fr : Nat) : Nat → List Nat
  | 0 => []
  | j + 1 => if (d.sec (fr + j)).any (· != 0) then dirtyN d fr j ++ [j] else dirtyN d fr j
theorem dirtyN_len (d : Dd) (fr : Nat) : ∀ j, (dirtyN d fr j).length ≤ j
  | 0 => Nat.le_refl _
  | j + 1 => by
    have := dirtyN_len d fr j
    rw [dirtyN]
    split
    · rw [List.length_append, List.length_singleton]; omega
    · omega
theorem flatN_len {v : Dv} {d : Dd} (ho : DOk v d) (fr : Nat) : ∀ j, fr + j ≤ d.su.length → (flatN d fr j).length = 64 * j
  | 0, _ => rfl
  | j + 1, h => by
    have h1 := flatN_len ho fr j (by omega)
    obtain ⟨s, hs⟩ : ∃ s, d.no[fr + j]? = some s := ⟨_, List.getElem?_eq_getElem (by rw [ho.nn]; omega)⟩
    have h2 := ho.nl s (List.mem_of_getElem? hs)
    rw [flatN, List.length_append, h1]
    unfold Dd.sec
    rw [hs, Option.getD_some, h2]
    omega
theorem readR_ok : ∀ (f k : Nat) (x : List UInt8) (m : Nat), x.length ≤ 64 * m → (readR f k x).2 ≤ m ∧ (readR f k x).1.length ≤ (readR f k x).2 ∧ ∀ r ∈ (readR f k x).1, r.length ≤ 256
  | 0, _, _, _, _ => ⟨Nat.zero_le _, Nat.le_refl _, fun r hr => by cases hr⟩
  | f + 1, k, x, m, h => by
    rw [readR]
    by_cases hc : fErr x = 0 ∧ fNum x = k + 1
    · rw [if_pos hc]
      obtain ⟨h1, h2, h3⟩ := fErr_ok hc.1
      have h4 := secs_pos (fMany x)
      obtain ⟨g1, g2, g3⟩ := readR_ok f (k + 1) (x.drop (secs (fMany x) * 64)) (m - secs (fMany x)) (by rw [List.length_drop]; omega)
      refine ⟨by simp only; omega, by simp only [List.length_cons]; omega, fun r hr => ?_⟩
      rcases List.mem_cons.1 hr with rfl | hr
      · unfold fRec; rw [List.length_take]; omega
      · exact g3 r hr
    · rw [if_neg hc]
      exact ⟨Nat.zero_le _, Nat.le_refl _, fun r hr => by cases hr⟩
theorem dirtyN_lt (d : Dd) (fr : Nat) : ∀ j, ∀ i ∈ dirtyN d fr j, i < j
  | 0, i, h => by cases h
  | j + 1, i, h => by
    rw [dirtyN] at h
    split at h
    · rcases List.mem_append.1 h with h | h
      · have := dirtyN_lt d fr j i h; omega
      · obtain rfl := List.mem_singleton.1 h; omega
    · have := dirtyN_lt d fr j i h; omega
theorem write_su (d : Dd) (N : Int) (b : List UInt8) : (d.write N b).1.su = d.su := by
  unfold Dd.write
  split
  · rfl
  · split <;> rfl
/-- steps, one behind the other, until one is not let be: none: Sync; else a write. -/
def runS : List (Option (Nat × List UInt8)) → Dd → Dd × Int
  | [], d => (d, 0)
  | none :: l, d => if d.sync.2 = 0 then runS l d.sync.1 else d.sync
  | some x :: l, d => if (d.write (x.1 : Int) x.2).2 = 0 then runS l (d.write (x.1 : Int) x.2).1 else d.write (x.1 : Int) x.2
def wipe (fr : Nat) (l : List Nat) (d : Dd) : Dd × Int := runS (l.map fun i => some (fr + i, [])) d
theorem wipe_nil (fr : Nat) (d : Dd) : wipe fr [] d = (d, 0) := rfl
theorem wipe_cons (fr : Nat) (i : Nat) (l : List Nat) (d : Dd) : wipe fr (i :: l) d = if (d.write ((fr + i : Nat) : Int) []).2 = 0 then wipe fr l (d.write ((fr + i : Nat) : Int) []).1 else d.write ((fr + i : Nat) : Int) [] := rfl
/-- the records, how many sectors they take, and which others are not all noughts. -/
def regR (d : Dd) (fr mn : Nat) : List (List UInt8) := (readR (mn + 1) 0 (flatN d fr mn)).1
def regE (d : Dd) (fr mn : Nat) : Nat := (readR (mn + 1) 0 (flatN d fr mn)).2
def regD (d : Dd) (fr mn : Nat) : List Nat := keptN (regE d fr mn) (dirtyN d fr mn)
def openR (d : Dd) (fr mn : Nat) : Dd × Option Sd × Int :=
  if (regD d fr mn).any (fun i => decide (regE d fr mn + 5 ≤ i)) then (d, none, 4)
  else if (wipe fr (regD d fr mn) d).2 = 0 then
    (if (wipe fr (regD d fr mn) d).1.sync.2 = 0 then ((wipe fr (regD d fr mn) d).1.sync.1, some ⟨fr, mn, regE d fr mn, regR d fr mn⟩, 0) else ((wipe fr (regD d fr mn) d).1.sync.1, none, (wipe fr (regD d fr mn) d).1.sync.2))
  else ((wipe fr (regD d fr mn) d).1, none, (wipe fr (regD d fr mn) d).2)
/-- so many pieces of 64 bytes. -/
def chunk : Nat → List UInt8 → List (List UInt8)
  | 0, _ => []
  | n + 1, x => x.take 64 :: chunk n (x.drop 64)
/-- a frame's sectors. -/
def frS (k : Nat) (b : List UInt8) : List (List UInt8) := chunk (secs b.length) (putF k b)
/-- the writes of sectors, one behind the other. -/
def wrs : Nat → List (List UInt8) → List (Option (Nat × List UInt8))
  | _, [] => []
  | n, x :: l => some (n, x) :: wrs (n + 1) l
/-- what Add does: at: where the frame begins. -/
def stepsF (at_ : Nat) (F : List (List UInt8)) : List (Option (Nat × List UInt8)) :=
  none :: (wrs (at_ + 1) (F.drop 1) ++ ((if F.length ≤ 1 then [] else [none]) ++ [some (at_, F[0]?.getD [])]))
def addR (d : Dd) (s : Sd) (b : List UInt8) : Dd × Sd × Int :=
  if 256 < b.length then (d, s, 3)
  else if s.mn - s.en < secs b.length then (d, s, 11)
  else
    let r := runS (stepsF (s.fr + s.en) (frS (s.ls.length + 1) b)) d
    if r.2 = 0 then (r.1, ⟨s.fr, s.mn, s.en + secs b.length, s.ls ++ [b]⟩, 0) else (r.1, s, r.2)
end Go.Proofs.Ytdnioigcgggdbaa
