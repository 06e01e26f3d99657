/-
  disks: one contract for Write, and one for Sync, whatever comes.
-/
import Derived.Test.YtdnioigcgggdbaaDk6
set_option linter.unusedVariables false
set_option linter.unusedSimpArgs false
namespace Go.Proofs.Ytdnioigcgggdbaa
open Go.RowKit

theorem write_wa (d : Dd) (N : Int) (b : List UInt8) : (d.write N b).1.wa.length ≤ d.wa.length + 1 := by
  unfold Dd.write
  split
  · simp
  · split
    · simp [Dd.spend]
    · simp
theorem sync_wa (d : Dd) : d.sync.1.wa.length ≤ d.wa.length := by
  unfold Dd.sync
  split <;> simp [Dd.spend, Dd.settle]
section
variable {W : World} {L L' L0 : List Ent} {R : Ending → World → Prop} {g : Nat} {v : Dv} {d d' : Dd} {e : Int}
theorem dwrite_c {A : Option Addr} {m c : Nat} (N : Int) (b : List UInt8) (hz : d.write N b = (d', e)) (hlen : d.wa.length ≤ 1000000) (H : Holds W L) (hm : Pull (dkE g v d) L L0) (hr : Gives L0 fun w => Rd w 1 A m c (bvs b))
    (k : ∀ v' w', Holds w' (dkE g v' d' :: L0) → R (.returned (.int .i64 e)) w') :
    Calls Try.prog 42 #[.pointer (some ⟨g, 0, none⟩), .int .i64 N, .slice A m c] W R := by
  have hR := hr W (H.pull hm).tail
  have hbl := hR.blen
  have hc := hR.top
  have hmc := hR.le
  unfold maxLen at hc
  clear hR
  unfold Dd.write at hz
  by_cases h : N < 0 ∨ (d.su.length : Int) ≤ N ∨ 64 < b.length
  · rw [if_pos h] at hz
    cases hz
    exact write_no N (by omega) (by omega) hmc H hm fun w' h => k _ w' h
  · rw [if_neg h] at hz
    obtain ⟨n, rfl⟩ : ∃ n : Nat, N = n := ⟨N.toNat, by omega⟩
    cases hs : spentB d.lf d.bl with
    | true =>
      rw [hs, if_pos rfl] at hz
      cases hz
      exact write_spent n (by omega) (by omega) hs (by omega) hmc H hm fun w' h => k _ w' h
    | false =>
      rw [hs, if_neg (by decide), Int.toNat_natCast] at hz
      cases hz
      exact write_yes n (by omega) (by omega) hs hlen H hm hr fun v' w' h => k v' w' h
theorem dsync_c (hz : d.sync = (d', e)) (H : Holds W L) (hm : Pull (dkE g v d) L L0) (k : ∀ v' w', Holds w' (dkE g v' d' :: L0) → R (.returned (.int .i64 e)) w') : Calls Try.prog 31 #[.pointer (some ⟨g, 0, none⟩)] W R := by
  refine sync_k H hm fun v' w' h => ?_
  rw [hz] at h ⊢
  exact k v' w' h
end
end Go.Proofs.Ytdnioigcgggdbaa
