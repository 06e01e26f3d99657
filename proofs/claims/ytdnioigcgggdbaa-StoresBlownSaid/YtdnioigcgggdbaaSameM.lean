/-
  Contract of SameBytes.
  SameBytes over entries.
-/
import Derived.Test.YtdnioigcgggdbaaProg
import Derived.Test.YtdnioigcgggdbaaLib
import Derived.Test.YtdnioigcgggdbaaMem2
set_option linter.unusedVariables false
set_option linter.unusedSimpArgs false
namespace Go.Proofs.Ytdnioigcgggdbaa
open Go.RowKit

theorem take_eq_step {l1 l2 : List UInt8} {k : Nat} (h1 : k < l1.length) (h2 : k < l2.length) (h : l1.take k = l2.take k) (he : l1[k]?.getD 0 = l2[k]?.getD 0) : l1.take (k + 1) = l2.take (k + 1) := by
  rw [List.take_add_one, List.take_add_one, h]
  rw [List.getElem?_eq_getElem h1, List.getElem?_eq_getElem h2] at he ⊢
  simp only [Option.getD_some] at he
  rw [he]
def SameP (l1 l2 : List UInt8) (w : World) (e : Ending) (w' : World) : Prop := e = .returned (.bool (decide (l1 = l2))) ∧ ∃ d, w' = w.drewN d
theorem sameP_no {l1 l2 : List UInt8} {w w' : World} {e : Ending} (h : l1 ≠ l2) (he : e = .returned (.bool false)) (hw : ∃ d, w' = w.drewN d) : SameP l1 l2 w e w' := by
  unfold SameP; rw [decide_eq_false h]; exact ⟨he, hw⟩
theorem sameP_yes {l1 l2 : List UInt8} {w w' : World} {e : Ending} (h : l1 = l2) (he : e = .returned (.bool true)) (hw : ∃ d, w' = w.drewN d) : SameP l1 l2 w e w' := by
  unfold SameP; rw [decide_eq_true h]; exact ⟨he, hw⟩

set_option maxHeartbeats 400000 in
theorem same_any (A1 : Option Addr) (n1 c1 : Nat) (l1 : List UInt8) (A2 : Option Addr) (n2 c2 : Nat) (l2 : List UInt8) (w : World) (h1 : Rd w 1 A1 n1 c1 (bvs l1)) (h2 : Rd w 1 A2 n2 c2 (bvs l2)) :
    Calls Try.prog 46 #[.slice A1 n1 c1, .slice A2 n2 c2] w (SameP l1 l2 w) := by
  have hl1 := h1.blen
  have hl2 := h2.blen
  have hc1 := h1.top
  have hn1 := h1.le
  unfold maxLen at hc1
  have Hl1 := Lib.hid hl1
  have Hl2 := Lib.hid hl2
  clear hl1 hl2
  by_cases hne : n1 = n2
  · subst hne
    go_enter Try.func46, Try.ntmps46
    go_wp2
    go_loopw [5] (fun i wr => ∃ k d : Nat, k ≤ n1 ∧ i = .int .i64 k ∧ wr = w.drewN d ∧ l1.take k = l2.take k) (fun i _ => n1 - (intOf i).toNat)
    case atStart => exact ⟨0, 0, Nat.zero_le _, rfl, rfl, rfl⟩
    case round =>
      obtain ⟨k, d, hk, rfl, rfl, ht⟩ := hrel
      have Ht := Lib.hid ht
      clear ht
      by_cases hlt : k < n1
      · obtain ⟨b1, o1, rfl, g1⟩ := h1.byte hlt
        obtain ⟨b2, o2, rfl, g2⟩ := h2.byte hlt
        have hst : l1[k]?.getD 0 = l2[k]?.getD 0 → l1.take (k + 1) = l2.take (k + 1) := fun he => take_eq_step (by have := Hl1.out; omega) (by have := Hl2.out; omega) Ht.out he
        have hst2 : l1[k]?.getD 0 ≠ l2[k]?.getD 0 → l1 ≠ l2 := fun he e => he (by rw [e])
        have Hst := Lib.hid hst
        have Hst2 := Lib.hid hst2
        clear hst hst2 h1 h2
        generalize l1[k]?.getD 0 = x1 at *
        generalize l2[k]?.getD 0 = x2 at *
        by_cases hx : x1 = x2
        · subst hx
          go_wp2
          go_quiet (fail)
          go_wp2
          go_roundw
          case rel => exact ⟨k + 1, _, by omega, by go_num, rfl, Hst.out (by first | rfl | trivial)⟩
          case measure => simp [intOf]; omega
        · have hxi : ((x1.toNat : Int) != (x2.toNat : Int)) = true := by rw [bne_iff_ne]; intro h; exact hx (UInt8.toNat.inj (by omega))
          go_wp2
          go_quiet (fail)
          go_wp2
          go_ret
          exact sameP_no (Hst2.out hx) rfl ⟨d + nq, by rw [World.drewN_drewN]⟩
      · obtain rfl : k = n1 := by omega
        go_wp2
        go_ret
        refine sameP_yes ?_ rfl ⟨d, rfl⟩
        have := Ht.out
        rwa [List.take_of_length_le (by have := Hl1.out; omega), List.take_of_length_le (by have := Hl2.out; omega)] at this
  · have hb : ((n1 : Int) != (n2 : Int)) = true := by rw [bne_iff_ne]; omega
    go_enter Try.func46, Try.ntmps46
    go_wp2
    go_ret
    refine sameP_no (fun e => hne ?_) rfl ⟨0, rfl⟩
    rw [← Hl1.out, ← Hl2.out, e]
end Go.Proofs.Ytdnioigcgggdbaa
namespace Go.Proofs.Ytdnioigcgggdbaa
open Go.RowKit

section
variable {W : World} {L L' L0 : List Ent} {R : Ending → World → Prop}
theorem same_k {A1 A2 : Option Addr} {n1 c1 n2 c2 : Nat} {l1 l2 : List UInt8} (h1 : Gives L fun w => Rd w 1 A1 n1 c1 (bvs l1)) (h2 : Gives L fun w => Rd w 1 A2 n2 c2 (bvs l2)) (H : Holds W L) (k : ∀ w', Holds w' L → R (.returned (.bool (decide (l1 = l2)))) w') :
    Calls Try.prog 46 #[.slice A1 n1 c1, .slice A2 n2 c2] W R := by
  refine (same_any A1 n1 c1 l1 A2 n2 c2 l2 W (h1 W H) (h2 W H)).mono fun e w' h => ?_
  obtain ⟨he, d, rfl⟩ := h
  rw [he]
  exact k _ (H.drewN d)
end
end Go.Proofs.Ytdnioigcgggdbaa
