/-
  disks: one contract for each call, whatever its arguments: the program's disk and the reference's.
-/
import Derived.Test.YtaegjjaabeakoaaDoorDp1
set_option linter.unusedVariables false
set_option linter.unusedSimpArgs false
namespace Go.Proofs.YtaegjjaabeakoaaDoor
open Go.RowKit

def Dd.readB (d : Dd) (N : Int) : List UInt8 := if 0 ≤ N ∧ N < d.su.length then d.no[N.toNat]?.getD [] else []
def Dd.readE (d : Dd) (N : Int) : Int := if 0 ≤ N ∧ N < d.su.length then 0 else 1
def Dd.turnE (d : Dd) (N M : Int) (y : UInt8) : Dd × Int :=
  if N < 0 ∨ (d.su.length : Int) ≤ N ∨ M < 0 ∨ 64 ≤ M then (d, 1) else if d.bl then (d, 9) else (d.turn N.toNat M.toNat y, 0)
def Dd.failD (d : Dd) (kept : List Bool) : Dd := dnew (failK d.su d.wa kept (min d.wa.length kept.length))
theorem write_wa (d : Dd) (N : Int) (b : List UInt8) : (d.write N b).1.wa.length ≤ d.wa.length + 1 := by
  unfold Dd.write
  split
  · simp
  · split
    · simp [Dd.spend]
    · simp
theorem sync_wa (d : Dd) : d.sync.1.wa.length ≤ d.wa.length := by
  unfold Dd.sync
  split <;> simp [Dd.spend, Dd.settle]
theorem turnE_wa (d : Dd) (N M : Int) (y : UInt8) : (d.turnE N M y).1.wa.length ≤ d.wa.length := by
  unfold Dd.turnE
  split
  · simp
  · split
    · simp
    · simp [Dd.turn, Dd.settle]
section
variable {W : World} {L L' L0 : List Ent} {R : Ending → World → Prop} {g : Nat} {v : Dv} {r : Rv} {d d' : Dd} {e : Int}
theorem dkE_ok (H : Holds W L) (h : dkE g v d ∈ L) : DOk v d := (H.all _ h).1
theorem dread_c {z : List UInt8} (N : Int) (hz : d.readB N = z ∧ d.readE N = e) (H : Holds W L) (hm : Pull (dkE g v d) L L0) (k : ∀ A c w', Holds w' (rowE 5 A z.length c (bvs z) :: dkE g v d :: L0) → R (.returned (.tuple #[.slice A z.length c, .int .i64 e])) w') :
    Calls Tryd.prog 8 #[.pointer (some ⟨g, 0, none⟩), .int .i64 N] W R := by
  obtain ⟨rfl, rfl⟩ := hz
  unfold Dd.readB Dd.readE at *
  by_cases h : 0 ≤ N ∧ N < d.su.length
  · rw [if_pos h, if_pos h] at k
    obtain ⟨n, rfl⟩ : ∃ n : Nat, N = n := ⟨N.toNat, by omega⟩
    have ho := dkE_ok H hm.mem
    obtain ⟨s, hs⟩ : ∃ s, d.no[n]? = some s := ⟨_, List.getElem?_eq_getElem (by rw [ho.nn]; omega)⟩
    have h64 := ho.nl s (List.mem_of_getElem? hs)
    rw [Int.toNat_natCast, hs, Option.getD_some, h64] at k
    exact read_k n s hs H hm fun b w' h => k _ _ w' h.to_row
  · rw [if_neg h, if_neg h] at k
    exact read_no N (by omega) H hm fun w' h => k none 0 w' (h.add_nil 5 1).to_row
theorem rread_c {z : List UInt8} (N : Int) (hz : d.readB N = z ∧ d.readE N = e) (h64 : ∀ s ∈ d.no, s.length = 64) (hnl : d.no.length = d.su.length) (H : Holds W L) (hm : Pull (rdE g r d) L L0) (k : ∀ A c w', Holds w' (rowE 5 A z.length c (bvs z) :: rdE g r d :: L0) → R (.returned (.tuple #[.slice A z.length c, .int .i64 e])) w') :
    Calls Tryd.prog 9 #[.pointer (some ⟨g, 0, none⟩), .int .i64 N] W R := by
  obtain ⟨rfl, rfl⟩ := hz
  unfold Dd.readB Dd.readE at *
  by_cases h : 0 ≤ N ∧ N < d.su.length
  · rw [if_pos h, if_pos h] at k
    obtain ⟨n, rfl⟩ : ∃ n : Nat, N = n := ⟨N.toNat, by omega⟩
    obtain ⟨s, hs⟩ : ∃ s, d.no[n]? = some s := ⟨_, List.getElem?_eq_getElem (by rw [hnl]; omega)⟩
    have h64 := h64 s (List.mem_of_getElem? hs)
    rw [Int.toNat_natCast, hs, Option.getD_some, h64] at k
    exact rread_k n s hs H hm fun A c w' h => k _ _ w' h.to_row
  · rw [if_neg h, if_neg h] at k
    exact rread_no N (by omega) H hm fun w' h => k none 0 w' (h.add_nil 5 1).to_row
theorem dwrite_c {A : Option Addr} {m c : Nat} (N : Int) (b : List UInt8) (hz : d.write N b = (d', e)) (hlen : d.wa.length ≤ 1000000) (H : Holds W L) (hm : Pull (dkE g v d) L L0) (hr : Gives L0 fun w => Rd w 1 A m c (bvs b))
    (k : ∀ v' w', Holds w' (dkE g v' d' :: L0) → R (.returned (.int .i64 e)) w') :
    Calls Tryd.prog 18 #[.pointer (some ⟨g, 0, none⟩), .int .i64 N, .slice A m c] W R := by
  have hR := hr W (H.pull hm).tail
  have hbl := hR.blen
  have hc := hR.top
  have hmc := hR.le
  unfold maxLen at hc
  clear hR
  unfold Dd.write at hz
  by_cases h : N < 0 ∨ (d.su.length : Int) ≤ N ∨ 64 < b.length
  · rw [if_pos h] at hz
    cases hz
    exact write_no N (by omega) (by omega) hmc H hm fun w' h => k _ w' h
  · rw [if_neg h] at hz
    obtain ⟨n, rfl⟩ : ∃ n : Nat, N = n := ⟨N.toNat, by omega⟩
    cases hs : spentB d.lf d.bl with
    | true =>
      rw [hs, if_pos rfl] at hz
      cases hz
      exact write_spent n (by omega) (by omega) hs (by omega) hmc H hm fun w' h => k _ w' h
    | false =>
      rw [hs, if_neg (by decide), Int.toNat_natCast] at hz
      cases hz
      exact write_yes n (by omega) (by omega) hs hlen H hm hr fun v' w' h => k v' w' h
theorem rwrite_c {A : Option Addr} {m c : Nat} (N : Int) (b : List UInt8) (hz : d.write N b = (d', e)) (hlen : d.wa.length ≤ 1000000) (H : Holds W L) (hm : Pull (rdE g r d) L L0) (hr : Gives L0 fun w => Rd w 1 A m c (bvs b))
    (k : ∀ v' w', Holds w' (rdE g v' d' :: L0) → R (.returned (.int .i64 e)) w') :
    Calls Tryd.prog 23 #[.pointer (some ⟨g, 0, none⟩), .int .i64 N, .slice A m c] W R := by
  have hR := hr W (H.pull hm).tail
  have hbl := hR.blen
  have hc := hR.top
  have hmc := hR.le
  unfold maxLen at hc
  clear hR
  unfold Dd.write at hz
  by_cases h : N < 0 ∨ (d.su.length : Int) ≤ N ∨ 64 < b.length
  · rw [if_pos h] at hz
    cases hz
    exact rwrite_no N (by omega) (by omega) hmc H hm fun w' h => k _ w' h
  · rw [if_neg h] at hz
    obtain ⟨n, rfl⟩ : ∃ n : Nat, N = n := ⟨N.toNat, by omega⟩
    cases hs : spentB d.lf d.bl with
    | true =>
      rw [hs, if_pos rfl] at hz
      cases hz
      exact rwrite_spent n (by omega) (by omega) hs (by omega) hmc H hm fun w' h => k _ w' h
    | false =>
      rw [hs, if_neg (by decide), Int.toNat_natCast] at hz
      cases hz
      exact rwrite_yes n (by omega) (by omega) hs hlen H hm hr fun v' w' h => k v' w' h
theorem dturn_c (N M : Int) (y : UInt8) (hz : d.turnE N M y = (d', e)) (H : Holds W L) (hm : Pull (dkE g v d) L L0) (k : ∀ v' w', Holds w' (dkE g v' d' :: L0) → R (.returned (.int .i64 e)) w') :
    Calls Tryd.prog 20 #[.pointer (some ⟨g, 0, none⟩), .int .i64 N, .int .i64 M, .int .u8 ((y.toNat : Nat) : Int)] W R := by
  unfold Dd.turnE at hz
  by_cases h : N < 0 ∨ (d.su.length : Int) ≤ N ∨ M < 0 ∨ 64 ≤ M
  · rw [if_pos h] at hz
    cases hz
    exact turn_no N M _ h H hm fun w' h => k _ w' h
  · rw [if_neg h] at hz
    obtain ⟨n, rfl⟩ : ∃ n : Nat, N = n := ⟨N.toNat, by omega⟩
    obtain ⟨m, rfl⟩ : ∃ n : Nat, M = n := ⟨M.toNat, by omega⟩
    cases hs : d.bl with
    | true =>
      rw [hs, if_pos rfl] at hz
      cases hz
      exact turn_blown n m _ (by omega) (by omega) hs H hm fun w' h => k _ w' h
    | false =>
      rw [hs, if_neg (by decide), Int.toNat_natCast, Int.toNat_natCast] at hz
      cases hz
      exact turn_yes n m y (by omega) (by omega) hs H hm fun v' w' h => k v' w' h
theorem rturn_c (N M : Int) (y : UInt8) (hz : d.turnE N M y = (d', e)) (H : Holds W L) (hm : Pull (rdE g r d) L L0) (k : ∀ v' w', Holds w' (rdE g v' d' :: L0) → R (.returned (.int .i64 e)) w') :
    Calls Tryd.prog 21 #[.pointer (some ⟨g, 0, none⟩), .int .i64 N, .int .i64 M, .int .u8 ((y.toNat : Nat) : Int)] W R := by
  unfold Dd.turnE at hz
  by_cases h : N < 0 ∨ (d.su.length : Int) ≤ N ∨ M < 0 ∨ 64 ≤ M
  · rw [if_pos h] at hz
    cases hz
    exact rturn_no N M _ h H hm fun w' h => k _ w' h
  · rw [if_neg h] at hz
    obtain ⟨n, rfl⟩ : ∃ n : Nat, N = n := ⟨N.toNat, by omega⟩
    obtain ⟨m, rfl⟩ : ∃ n : Nat, M = n := ⟨M.toNat, by omega⟩
    cases hs : d.bl with
    | true =>
      rw [hs, if_pos rfl] at hz
      cases hz
      exact rturn_blown n m _ (by omega) (by omega) hs H hm fun w' h => k _ w' h
    | false =>
      rw [hs, if_neg (by decide), Int.toNat_natCast, Int.toNat_natCast] at hz
      cases hz
      exact rturn_yes n m y (by omega) (by omega) hs H hm fun v' w' h => k v' w' h
theorem dsync_c (hz : d.sync = (d', e)) (H : Holds W L) (hm : Pull (dkE g v d) L L0) (k : ∀ v' w', Holds w' (dkE g v' d' :: L0) → R (.returned (.int .i64 e)) w') : Calls Tryd.prog 12 #[.pointer (some ⟨g, 0, none⟩)] W R := by
  refine sync_k H hm fun v' w' h => ?_
  rw [hz] at h ⊢
  exact k v' w' h
theorem rsync_c (hz : d.sync = (d', e)) (H : Holds W L) (hm : Pull (rdE g r d) L L0) (k : ∀ v' w', Holds w' (rdE g v' d' :: L0) → R (.returned (.int .i64 e)) w') : Calls Tryd.prog 13 #[.pointer (some ⟨g, 0, none⟩)] W R := by
  refine rsync_k H hm fun v' w' h => ?_
  rw [hz] at h ⊢
  exact k v' w' h
theorem dfuse_c (N : Int) (hw : (Lit.int .i64 N).wf = true) (hz : d.fuse N = d') (H : Holds W L) (hm : Pull (dkE g v d) L L0) (k : ∀ w', Holds w' (dkE g v d' :: L0) → R (.returned (.int .i64 0)) w') : Calls Tryd.prog 17 #[.pointer (some ⟨g, 0, none⟩), .int .i64 N] W R := by
  subst hz
  have hb : IntKind.i64.min ≤ N ∧ N ≤ IntKind.i64.max := by simpa [Lit.wf] using hw
  exact fuse_k N hb.1 hb.2 H hm k
theorem rfuse_c (N : Int) (hw : (Lit.int .i64 N).wf = true) (hz : d.fuse N = d') (H : Holds W L) (hm : Pull (rdE g r d) L L0) (k : ∀ w', Holds w' (rdE g r d' :: L0) → R (.returned (.int .i64 0)) w') : Calls Tryd.prog 22 #[.pointer (some ⟨g, 0, none⟩), .int .i64 N] W R := by
  subst hz
  have hb : IntKind.i64.min ≤ N ∧ N ≤ IntKind.i64.max := by simpa [Lit.wf] using hw
  exact rfuse_k N hb.1 hb.2 H hm k
theorem dfail_c {A : Option Addr} {c n : Nat} (kept : List Bool) (hz : d.failD kept = d') (H : Holds W L) (hm : Pull (dkE g v d) L L0) (hr : Gives L0 fun w => Rd w 1 A n c (kept.map Value.bool)) (hlen : d.wa.length ≤ 1000000)
    (k : ∀ g2 v2 w', Holds w' (dkE g2 v2 d' :: dkE g v d :: L0) → R (.returned (.tuple #[.pointer (some ⟨g2, 0, none⟩), .int .i64 0])) w') :
    Calls Tryd.prog 14 #[.pointer (some ⟨g, 0, none⟩), .slice A n c] W R := by
  subst hz
  exact fail_k H hm hr hlen k
theorem rfail_c {A : Option Addr} {c n : Nat} (kept : List Bool) (hz : d.failD kept = d') (H : Holds W L) (hm : Pull (rdE g r d) L L0) (hr : Gives L0 fun w => Rd w 1 A n c (kept.map Value.bool)) (hlen : d.wa.length ≤ 1000000)
    (k : ∀ g2 v2 w', Holds w' (rdE g2 v2 d' :: rdE g r d :: L0) → R (.returned (.pointer (some ⟨g2, 0, none⟩))) w') :
    Calls Tryd.prog 19 #[.pointer (some ⟨g, 0, none⟩), .slice A n c] W R := by
  subst hz
  exact rfail_k H hm hr hlen k
theorem great_c {B0 : Ent} {A : Option Addr} {n c : Nat} {cs : List Value} {acts : List ActV} {gv : Bool} (h1 : RdA B0 A n c cs acts) (hz : decide (400 < gsum acts n) = gv) (H : Holds W L) (hb : B0 ∈ L) (k : ∀ w', Holds w' L → R (.returned (.bool gv)) w') : Calls Tryd.prog 4 #[.slice A n c] W R := by
  subst hz
  exact great_k h1 H hb k
theorem blown_c (hz : d.bl = false) (H : Holds W L) (hm : Pull (dkE g v d) L L0) (k : ∀ w', Holds w' (dkE g v d :: L0) → R (.returned (.bool false)) w') : Calls Tryd.prog 15 #[.pointer (some ⟨g, 0, none⟩)] W R := by
  refine blown_k H hm fun w' h => ?_
  rw [hz]
  exact k w' h
theorem waits_c (hz : d.wa = []) (H : Holds W L) (hm : Pull (dkE g v d) L L0) (k : ∀ w', Holds w' (dkE g v d :: L0) → R (.returned (.int .i64 0)) w') : Calls Tryd.prog 16 #[.pointer (some ⟨g, 0, none⟩)] W R := by
  refine waits_k H hm fun w' h => ?_
  rw [hz]
  exact k w' h
theorem rblown_c (hz : d.bl = false) (H : Holds W L) (hm : Pull (rdE g r d) L L0) (k : ∀ w', Holds w' (rdE g r d :: L0) → R (.returned (.bool false)) w') : Calls Tryd.prog 24 #[.pointer (some ⟨g, 0, none⟩)] W R := by
  refine rblown_k H hm fun w' h => ?_
  rw [hz]
  exact k w' h
theorem rwaits_c (hz : d.wa = []) (H : Holds W L) (hm : Pull (rdE g r d) L L0) (k : ∀ w', Holds w' (rdE g r d :: L0) → R (.returned (.int .i64 0)) w') : Calls Tryd.prog 25 #[.pointer (some ⟨g, 0, none⟩)] W R := by
  refine rwaits_k H hm fun w' h => ?_
  rw [hz]
  exact k w' h
end
end Go.Proofs.YtaegjjaabeakoaaDoor
