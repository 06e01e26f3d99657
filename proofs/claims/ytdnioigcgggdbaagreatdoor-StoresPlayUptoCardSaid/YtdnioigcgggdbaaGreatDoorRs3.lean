/-
  stores: plain facts for the reference's Open; its frames got, one contract a case.
-/
import Derived.Test.YtdnioigcgggdbaaGreatDoorMal
import Derived.Test.YtdnioigcgggdbaaGreatDoorMam
import Derived.Test.YtdnioigcgggdbaaGreatDoorRef6
set_option linter.unusedVariables false
set_option linter.unusedSimpArgs false
namespace Go.Proofs.YtdnioigcgggdbaaGreatDoor
open Go.RowKit
def dirtyB (d : Dd) (fr i : Nat) : Bool := (d.sec (fr + i)).any (· != 0)
/-- those of the sectors from i on that are not all noughts. -/
def wipL (d : Dd) (fr mn i : Nat) : List Nat := (List.range' i (mn - i)).filter (dirtyB d fr)
theorem wipL_cons {d : Dd} {fr mn i : Nat} (h : i < mn) : wipL d fr mn i = if dirtyB d fr i then i :: wipL d fr mn (i + 1) else wipL d fr mn (i + 1) := by
  unfold wipL
  rw [show mn - i = (mn - (i + 1)) + 1 from by omega, List.range'_succ, List.filter_cons]
theorem wipL_none {d : Dd} {fr mn i : Nat} (h : ∀ j, i ≤ j → j < mn → dirtyB d fr j = false) : wipL d fr mn i = [] := by
  unfold wipL
  rw [List.filter_eq_nil_iff]
  intro j hj
  obtain ⟨z, hz, rfl⟩ := List.mem_range'.1 hj
  rw [h _ (by omega) (by omega)]
  decide
theorem keptN_dirty (d : Dd) (fr en : Nat) : ∀ mn, keptN en (dirtyN d fr mn) = wipL d fr mn en
  | 0 => by unfold wipL; simp [dirtyN, keptN]
  | j + 1 => by
    have ih := keptN_dirty d fr en j
    have hr : wipL d fr (j + 1) en = wipL d fr j en ++ (if en ≤ j then [j].filter (dirtyB d fr) else []) := by
      unfold wipL
      by_cases h : en ≤ j
      · rw [if_pos h, show j + 1 - en = (j - en) + 1 from by omega, List.range'_concat, List.filter_append, show en + 1 * (j - en) = j from by omega]
      · rw [if_neg h, show j + 1 - en = 0 from by omega, show j - en = 0 from by omega]
        rfl
    rw [hr, ← ih, dirtyN]
    by_cases hz : (d.sec (fr + j)).any (· != 0) = true
    · have hz2 : dirtyB d fr j = true := hz
      rw [if_pos hz, keptN_snoc, List.filter_cons, if_pos hz2]
      by_cases h : j < en
      · rw [if_pos h, if_neg (by omega), List.append_nil]
      · rw [if_neg h, if_pos (by omega)]
        rfl
    · have hz2 : ¬ dirtyB d fr j = true := hz
      rw [if_neg hz, List.filter_cons, if_neg hz2]
      split <;> simp
theorem bad_any {d : Dd} {fr mn en : Nat} : ((wipL d fr mn en).any fun i => decide (en + 5 ≤ i)) = true ↔ ∃ i, en + 5 ≤ i ∧ i < mn ∧ dirtyB d fr i = true := by
  rw [List.any_eq_true]
  unfold wipL
  constructor
  · rintro ⟨i, hi, h5⟩
    obtain ⟨h1, h2⟩ := List.mem_filter.1 hi
    obtain ⟨z, hz, rfl⟩ := List.mem_range'.1 h1
    exact ⟨_, of_decide_eq_true h5, by omega, h2⟩
  · rintro ⟨i, h5, h1, h2⟩
    exact ⟨i, List.mem_filter.2 ⟨List.mem_range'.2 ⟨i - en, by omega, by omega⟩, h2⟩, decide_eq_true h5⟩
theorem write_9 (d : Dd) {n : Nat} {b : List UInt8} (hn : n < d.su.length) (hb : b.length ≤ 64) : (d.write (n : Int) b).2 = 0 ∨ (d.write (n : Int) b).2 = 9 := by
  rw [write_at d hn hb]
  split
  · exact .inr rfl
  · exact .inl rfl
theorem sync_9 (d : Dd) : d.sync.2 = 0 ∨ d.sync.2 = 9 := by
  rcases sync_cases d with ⟨h, -⟩ | h
  · rw [h]; exact .inr rfl
  · rw [h]; exact .inl rfl
theorem write_no_len (d : Dd) (N : Int) (b : List UInt8) : (d.write N b).1.no.length = d.no.length := by
  unfold Dd.write
  split
  · rfl
  · split
    · rfl
    · simp
theorem write_sec (d : Dd) {n : Nat} {b : List UInt8} (j : Nat) (hj : j ≠ n) (hn : n < d.su.length) (hb : b.length ≤ 64) : (d.write (n : Int) b).1.sec j = d.sec j := by
  rw [write_at d hn hb]
  unfold Dd.sec
  split
  · rfl
  · simp only
    rw [List.getElem?_set_ne (fun h => hj h.symm)]
theorem write_64 (d : Dd) {n : Nat} {b : List UInt8} (hn : n < d.su.length) (hb : b.length ≤ 64) (h : ∀ s ∈ d.no, s.length = 64) : ∀ s ∈ (d.write (n : Int) b).1.no, s.length = 64 := by
  rw [write_at d hn hb]
  split
  · exact h
  · intro s hs
    rcases List.mem_or_eq_of_mem_set hs with h1 | rfl
    · exact h s h1
    · exact padS_len hb
section
variable {W : World} {L : List Ent} {R : Ending → World → Prop} {A : Option Addr} {m c : Nat} {l : List UInt8}
theorem rfget_no (hm : m ≤ 1000000) (he : ¬ fErr l = 0) (G : Gives L fun w => Rd w 1 A m c (bvs l)) (H : Holds W L) (k : ∀ (e : Nat) w', e ≠ 0 → Holds w' L → R (.returned (.tuple #[.int .u64 0, .slice none 0 0, .int .i64 0, .int .i64 (e : Nat)])) w') :
    Calls Tryz.prog 46 #[.slice A m c] W R :=
  rfget_k hm G H (fun e w' _ h1 h2 => k e w' h1 h2) (fun h => absurd h he)
theorem rfget_yes (hm : m ≤ 1000000) (he : fErr l = 0) (G : Gives L fun w => Rd w 1 A m c (bvs l)) (H : Holds W L) (k : ∀ A' n' c' w', n' = fMany l → Holds w' (ownE 5 1 (.slice A' n' c') n' (bvs (fRec l)) :: L) → R (.returned (.tuple #[.int .u64 (fNum l : Nat), .slice A' n' c', .int .i64 (secs (fMany l) : Nat), .int .i64 0])) w') :
    Calls Tryz.prog 46 #[.slice A m c] W R :=
  rfget_k hm G H (fun e w' h1 h2 _ => absurd (h1.symm.trans he) h2) (fun _ A' n' c' w' hn h => k A' n' c' w' hn h)
end
end Go.Proofs.YtdnioigcgggdbaaGreatDoor
