/-
  stores: Open with an argument out of bounds; Len, Left, Get, Sync, one contract a call.
  stores: what Open and Add do to a disk's size and to what waits; one contract a call, of the program and of the reference.
  What an argument that is a slice of bytes reads as. Nothing of the program stands here.
  What an argument reads as: an array of bytes, and a slice of such arrays. Nothing of the program stands here.
-/
import Derived.Test.YtdnioigcgggdbaaGreatDoorSt9
import Derived.Test.YtdnioigcgggdbaaGreatDoorRs5
import Derived.Test.YtdnioigcgggdbaaGreatDoorMaa
import Derived.OpenShut
import Derived.Deep.Slices
set_option linter.unusedVariables false
set_option linter.unusedSimpArgs false
namespace Go.Proofs.YtdnioigcgggdbaaGreatDoor
open Go.RowKit
section
variable {W : World} {L L' L0 L1 : List Ent} {R : Ending → World → Prop} {p g : Nat} {v : Sv} {s : Sd} {dv : Dv} {d d' : Dd} {e : Int} {A : Option Addr} {m c : Nat} {b : List UInt8} {N M : Int} {ls : List (List UInt8)} {kept : List Bool}
set_option maxRecDepth 100000 in
set_option maxHeartbeats 1000000 in
theorem sopen_arg (hNM : N < 0 ∨ M < 1 ∨ (d.su.length : Int) < N ∨ (d.su.length : Int) - N < M) (H : Holds W L) (hm : Pull (dkE g dv d) L L0) (k : ∀ w', Holds w' (dkE g dv d :: L0) → R (.returned (.tuple #[.pointer none, .int .i64 1])) w') :
    Calls Tryz.prog 7 #[.pointer (some ⟨g, 0, none⟩), .int .i64 N, .int .i64 M] W R := by
  have ho := dk_ok' (H.all (dkE g dv d) hm.mem)
  have h4 := ho.n1
  have h3 := ho.n0
  have H2 := H.pull hm
  clear H hm ho
  have H := H2
  clear H2
  have h0 : ((d.su.length : Int) == 0) = false := by rw [beq_eq_false_iff_ne]; omega
  have HK := Lib.hid k; clear k
  by_cases c1 : N < 0
  · clear hNM
    go_enter Tryz.func7, Tryz.ntmps7
    go_wp2_with (first | ((with_reducible apply len_k H); (case hm => exact Pull.here); clear H; (try clear W); intro W H))
    exact HK.out _ H
  · by_cases c2 : M < 1
    · clear hNM
      go_enter Tryz.func7, Tryz.ntmps7
      go_wp2_with (first | ((with_reducible apply len_k H); (case hm => exact Pull.here); clear H; (try clear W); intro W H))
      exact HK.out _ H
    · by_cases c3 : (d.su.length : Int) < N
      · clear hNM
        go_enter Tryz.func7, Tryz.ntmps7
        go_wp2_with (first | ((with_reducible apply len_k H); (case hm => exact Pull.here); clear H; (try clear W); intro W H))
        exact HK.out _ H
      · have c4 : (d.su.length : Int) - N < M := by omega
        have e5 := Lib.hid (wrapI (x := (d.su.length : Int) - N) (by omega) (by omega))
        clear hNM
        go_enter Tryz.func7, Tryz.ntmps7
        go_wp2_with (first | ((with_reducible apply len_k H); (case hm => exact Pull.here); clear H; (try clear W); intro W H))
        exact HK.out _ H
theorem slen_v (n : Int) (H : Holds W L) (hm : Pull (stE p g v s) L L0) (hn : (s.ls.length : Int) = n) (k : ∀ w', Holds w' (stE p g v s :: L0) → R (.returned (.int .i64 n)) w') :
    Calls Tryz.prog 25 #[.pointer (some ⟨p, 0, none⟩)] W R := by
  subst hn
  exact slen_k H hm k
theorem sleft_v (n : Int) (H : Holds W L) (hm : Pull (stE p g v s) L L0) (hn : (s.mn : Int) - (s.en : Int) = n) (k : ∀ w', Holds w' (stE p g v s :: L0) → R (.returned (.int .i64 n)) w') :
    Calls Tryz.prog 27 #[.pointer (some ⟨p, 0, none⟩)] W R := by
  subst hn
  exact sleft_st H hm k
theorem ssync_c (hz : d.sync = (d', e)) (H : Holds W L) (hm : Pull (stE p g v s) L L1) (hm2 : Pull (dkE g dv d) L1 L0) (k : ∀ v' w', Holds w' (dkE g v' d' :: stE p g v s :: L0) → R (.returned (.int .i64 e)) w') :
    Calls Tryz.prog 10 #[.pointer (some ⟨p, 0, none⟩)] W R := by
  refine ssync_k H hm hm2 fun v' w' h => ?_
  rw [hz] at h ⊢
  exact k v' w' h
end
end Go.Proofs.YtdnioigcgggdbaaGreatDoor
set_option linter.unusedVariables false
set_option linter.unusedSimpArgs false
namespace Go.Proofs.YtdnioigcgggdbaaGreatDoor
open Go.RowKit
theorem runS_wa : ∀ (l : List (Option (Nat × List UInt8))) (d : Dd), (runS l d).1.wa.length ≤ d.wa.length + l.length
  | [], d => Nat.le_refl _
  | none :: l, d => by
    have h1 := runS_wa l d.sync.1
    have h2 := sync_wa d
    rw [runS, List.length_cons]
    split <;> omega
  | some x :: l, d => by
    have h1 := runS_wa l (d.write (x.1 : Int) x.2).1
    have h2 := write_wa d (x.1 : Int) x.2
    rw [runS, List.length_cons]
    split <;> omega
def Dd.sized (d : Dd) (n : Nat) : Prop := d.su.length = n ∧ d.no.length = n
theorem sync_sized {d : Dd} {n : Nat} (h : d.sized n) : d.sync.1.sized n := ⟨(sync_su d (h.2.trans h.1.symm)).trans h.1, (sync_no_len d).trans h.2⟩
theorem write_sized {d : Dd} {n : Nat} (N : Int) (b : List UInt8) (h : d.sized n) : (d.write N b).1.sized n := ⟨(congrArg List.length (write_su d N b)).trans h.1, (write_no_len d N b).trans h.2⟩
theorem runS_sized {n : Nat} : ∀ (l : List (Option (Nat × List UInt8))) (d : Dd), d.sized n → (runS l d).1.sized n
  | [], d, h => h
  | none :: l, d, h => by
    have h2 := sync_sized h
    rw [runS]
    split
    · exact runS_sized l _ h2
    · exact h2
  | some x :: l, d, h => by
    have h2 := write_sized (x.1 : Int) x.2 h
    rw [runS]
    split
    · exact runS_sized l _ h2
    · exact h2
theorem openR_wa (d : Dd) (fr mn : Nat) : (openR d fr mn).1.wa.length ≤ d.wa.length + mn := by
  have h1 : (wipe fr (regD d fr mn) d).1.wa.length ≤ d.wa.length + (regD d fr mn).length := by
    unfold wipe
    have := runS_wa ((regD d fr mn).map fun i => some (fr + i, [])) d
    rwa [List.length_map] at this
  have h2 : (regD d fr mn).length ≤ mn := Nat.le_trans (keptN_le _ _) (dirtyN_len d fr mn)
  have h3 := sync_wa (wipe fr (regD d fr mn) d).1
  unfold openR
  split
  · simp
  · split
    · split <;> simp only <;> omega
    · simp only; omega
theorem openR_sized {d : Dd} {n : Nat} (fr mn : Nat) (h : d.sized n) : (openR d fr mn).1.sized n := by
  have h1 : (wipe fr (regD d fr mn) d).1.sized n := runS_sized _ _ h
  have h2 := sync_sized h1
  unfold openR
  split
  · exact h
  · split
    · split
      · exact h2
      · exact h2
    · exact h1
theorem openR_cases (d : Dd) (fr mn : Nat) : (∃ d2 s, openR d fr mn = (d2, some s, 0) ∧ s.fr = fr ∧ s.mn = mn) ∨ ∃ d2 e, openR d fr mn = (d2, none, e) ∧ e ≠ 0 := by
  unfold openR
  split
  · exact .inr ⟨_, _, rfl, by decide⟩
  · split
    · split
      · exact .inl ⟨_, _, rfl, rfl, rfl⟩
      · exact .inr ⟨_, _, rfl, by assumption⟩
    · exact .inr ⟨_, _, rfl, by assumption⟩
theorem addR_place {d d' : Dd} {s s' : Sd} {b : List UInt8} {e : Int} (h : addR d s b = (d', s', e)) : s'.fr = s.fr ∧ s'.mn = s.mn := by
  unfold addR at h
  split at h
  · cases h; exact ⟨rfl, rfl⟩
  · split at h
    · cases h; exact ⟨rfl, rfl⟩
    · simp only at h
      split at h
      · cases h; exact ⟨rfl, rfl⟩
      · cases h; exact ⟨rfl, rfl⟩
theorem addR_sized {d : Dd} {n : Nat} (s : Sd) (b : List UInt8) (h : d.sized n) : (addR d s b).1.sized n := by
  have h2 := runS_sized (stepsF (s.fr + s.en) (frS (s.ls.length + 1) b)) d h
  unfold addR
  split
  · exact h
  · split
    · exact h
    · simp only
      split
      · exact h2
      · exact h2
theorem addR_wa (d : Dd) (s : Sd) (b : List UInt8) : (addR d s b).1.wa.length ≤ d.wa.length + 7 := by
  have h2 := runS_wa (stepsF (s.fr + s.en) (frS (s.ls.length + 1) b)) d
  unfold addR
  split
  · simp
  · rename_i h6
    have h5 := secs_5 (n := b.length) (by omega)
    have h1 := secs_1 b.length
    have hl := frS_len (s.ls.length + 1) b
    have h7 : (stepsF (s.fr + s.en) (frS (s.ls.length + 1) b)).length ≤ 7 := by
      rw [stepsF_descr _ (by omega), List.length_map, descr_len (by omega)]
      split <;> omega
    split
    · simp
    · simp only
      split <;> simp only <;> omega
section
variable {W : World} {L L' L0 L1 : List Ent} {R : Ending → World → Prop} {p g : Nat} {v : Sv} {s s' s2 : Sd} {dv : Dv} {rv : Rv} {d d' d2 : Dd} {e : Int} {A : Option Addr} {m c : Nat} {b : List UInt8} {N M : Int}
theorem sopen_y (fr mn : Nat) (hN : N = (fr : Int)) (hM : M = (mn : Int)) (h1 : fr + mn ≤ d.su.length) (h2 : 1 ≤ mn) (hwl : d.wa.length ≤ 500000) (hz : openR d fr mn = (d2, some s2, 0)) (H : Holds W L) (hm : Pull (dkE g dv d) L L0)
    (k : ∀ p v dv' w', Holds w' (stE p g v s2 :: dkE g dv' d2 :: L0) → R (.returned (.tuple #[.pointer (some ⟨p, 0, none⟩), .int .i64 0])) w') :
    Calls Tryz.prog 7 #[.pointer (some ⟨g, 0, none⟩), .int .i64 N, .int .i64 M] W R := by
  subst hN hM
  refine sopen_k fr mn h1 h2 H hm hwl (fun d' s p v dv' w' h3 h4 => ?_) (fun d' e dv' w' h3 h4 => ?_)
  · rw [hz] at h3; cases h3; exact k p v dv' w' h4
  · rw [hz] at h3; cases h3
theorem sopen_n (fr mn : Nat) (hN : N = (fr : Int)) (hM : M = (mn : Int)) (h1 : fr + mn ≤ d.su.length) (h2 : 1 ≤ mn) (hwl : d.wa.length ≤ 500000) (hz : openR d fr mn = (d2, none, e)) (H : Holds W L) (hm : Pull (dkE g dv d) L L0)
    (k : ∀ dv' w', Holds w' (dkE g dv' d2 :: L0) → R (.returned (.tuple #[.pointer none, .int .i64 e])) w') :
    Calls Tryz.prog 7 #[.pointer (some ⟨g, 0, none⟩), .int .i64 N, .int .i64 M] W R := by
  subst hN hM
  refine sopen_k fr mn h1 h2 H hm hwl (fun d' s p v dv' w' h3 h4 => ?_) (fun d' e dv' w' h3 h4 => ?_)
  · rw [hz] at h3; cases h3
  · rw [hz] at h3; cases h3; exact k dv' w' h4
theorem rsopen_y (fr mn : Nat) (hN : N = (fr : Int)) (hM : M = (mn : Int)) (h1 : fr + mn ≤ d.su.length) (h2 : 1 ≤ mn) (h4 : d.su.length ≤ 4096) (hnn : d.no.length = d.su.length) (hnl : ∀ s ∈ d.no, s.length = 64) (hwl : d.wa.length ≤ 500000) (hz : openR d fr mn = (d2, some s2, 0)) (H : Holds W L) (hm : Pull (rdE g rv d) L L0)
    (k : ∀ p v rv' w', Holds w' (rsE p g v s2 :: rdE g rv' d2 :: L0) → R (.returned (.tuple #[.pointer (some ⟨p, 0, none⟩), .int .i64 0])) w') :
    Calls Tryz.prog 8 #[.pointer (some ⟨g, 0, none⟩), .int .i64 N, .int .i64 M] W R := by
  subst hN hM
  refine rsopen_k fr mn h1 h2 h4 hnn hnl H hm hwl (fun d' s p v dv' w' h3 h4 => ?_) (fun d' e dv' w' h3 h4 => ?_)
  · rw [hz] at h3; cases h3; exact k p v dv' w' h4
  · rw [hz] at h3; cases h3
theorem rsopen_n (fr mn : Nat) (hN : N = (fr : Int)) (hM : M = (mn : Int)) (h1 : fr + mn ≤ d.su.length) (h2 : 1 ≤ mn) (h4 : d.su.length ≤ 4096) (hnn : d.no.length = d.su.length) (hnl : ∀ s ∈ d.no, s.length = 64) (hwl : d.wa.length ≤ 500000) (hz : openR d fr mn = (d2, none, e)) (H : Holds W L) (hm : Pull (rdE g rv d) L L0)
    (k : ∀ rv' w', Holds w' (rdE g rv' d2 :: L0) → R (.returned (.tuple #[.pointer none, .int .i64 e])) w') :
    Calls Tryz.prog 8 #[.pointer (some ⟨g, 0, none⟩), .int .i64 N, .int .i64 M] W R := by
  subst hN hM
  refine rsopen_k fr mn h1 h2 h4 hnn hnl H hm hwl (fun d' s p v dv' w' h3 h4 => ?_) (fun d' e dv' w' h3 h4 => ?_)
  · rw [hz] at h3; cases h3
  · rw [hz] at h3; cases h3; exact k dv' w' h4
theorem sadd_c (hz : addR d s b = (d', s', e)) (hlen : d.wa.length ≤ 500000) (hsu : s.fr + s.mn ≤ d.su.length) (G : Gives L0 fun w => Rd w 1 A m c (bvs b)) (H : Holds W L) (hm : Pull (stE p g v s) L L1) (hm2 : Pull (dkE g dv d) L1 L0)
    (k : ∀ v' dv' w', Holds w' (stE p g v' s' :: dkE g dv' d' :: L0) → R (.returned (.int .i64 e)) w') :
    Calls Tryz.prog 20 #[.pointer (some ⟨p, 0, none⟩), .slice A m c] W R := by
  have H1 := (H.pull hm).perm (hm2.perm.cons _)
  have hR := G W H1.tail.tail
  have hbl := hR.blen
  have hle := hR.le
  have htop := hR.top
  unfold maxLen at htop
  clear H1 hR
  unfold addR at hz
  rw [hbl] at hz
  by_cases c1 : 256 < m
  · rw [if_pos c1] at hz
    cases hz
    exact sadd_no c1 (by omega) H hm fun w' h => k v dv w' (h.perm (hm2.perm.cons _))
  · rw [if_neg c1] at hz
    by_cases c2 : s.mn - s.en < secs m
    · rw [if_pos c2] at hz
      cases hz
      exact sadd_big (by omega) c2 (fun w' h' => G w' (h'.perm hm2.perm).tail) H hm fun w' h => k v dv w' (h.perm (hm2.perm.cons _))
    · rw [if_neg c2] at hz
      simp only at hz
      obtain ⟨d3, e3, hy⟩ : ∃ d3 e3, runS (stepsF (s.fr + s.en) (frS (s.ls.length + 1) b)) d = (d3, e3) := ⟨_, _, rfl⟩
      rw [hy] at hz
      refine sadd_yes (by omega) (by omega) hlen hsu G H hm hm2 hy (fun h0 v' dv' w' h => ?_) (fun h0 dv' w' h => ?_)
      · subst h0
        rw [if_pos rfl] at hz
        cases hz
        exact k v' dv' w' h
      · rw [if_neg h0] at hz
        cases hz
        exact k v dv' w' h
theorem rsadd_c (hz : addR d s b = (d', s', e)) (hlen : d.wa.length ≤ 500000) (hsu : s.fr + s.mn ≤ d.su.length) (hnn : d.no.length = d.su.length) (G : Gives L0 fun w => Rd w 1 A m c (bvs b)) (H : Holds W L) (hm : Pull (rsE p g v s) L L1) (hm2 : Pull (rdE g rv d) L1 L0)
    (k : ∀ v' rv' w', Holds w' (rsE p g v' s' :: rdE g rv' d' :: L0) → R (.returned (.int .i64 e)) w') :
    Calls Tryz.prog 21 #[.pointer (some ⟨p, 0, none⟩), .slice A m c] W R := by
  have H1 := (H.pull hm).perm (hm2.perm.cons _)
  have hR := G W H1.tail.tail
  have hbl := hR.blen
  have hle := hR.le
  have htop := hR.top
  unfold maxLen at htop
  clear H1 hR
  unfold addR at hz
  rw [hbl] at hz
  by_cases c1 : 256 < m
  · rw [if_pos c1] at hz
    cases hz
    exact rsadd_no c1 (by omega) H hm fun w' h => k v rv w' (h.perm (hm2.perm.cons _))
  · rw [if_neg c1] at hz
    by_cases c2 : s.mn - s.en < secs m
    · rw [if_pos c2] at hz
      cases hz
      exact rsadd_big (by omega) c2 (fun w' h' => G w' (h'.perm hm2.perm).tail) H hm fun w' h => k v rv w' (h.perm (hm2.perm.cons _))
    · rw [if_neg c2] at hz
      simp only at hz
      obtain ⟨d3, e3, hy⟩ : ∃ d3 e3, runS (stepsF (s.fr + s.en) (frS (s.ls.length + 1) b)) d = (d3, e3) := ⟨_, _, rfl⟩
      rw [hy] at hz
      refine rsadd_yes (by omega) (by omega) hlen hsu hnn G H hm hm2 hy (fun h0 v' dv' w' h => ?_) (fun h0 dv' w' h => ?_)
      · subst h0
        rw [if_pos rfl] at hz
        cases hz
        exact k v' dv' w' h
      · rw [if_neg h0] at hz
        cases hz
        exact k v dv' w' h
def Sd.getB (s : Sd) (N : Int) : List UInt8 := if 0 ≤ N ∧ N < s.ls.length then s.ls[N.toNat]?.getD [] else []
def Sd.getE (s : Sd) (N : Int) : Int := if 0 ≤ N ∧ N < s.ls.length then 0 else 1
theorem getB_len (h : SOk s) (N : Int) : (s.getB N).length ≤ 256 := by
  unfold Sd.getB
  split
  · cases h2 : s.ls[N.toNat]? with
    | none => simp
    | some x => rw [Option.getD_some]; exact h.l6 x (List.mem_of_getElem? h2)
  · simp
theorem sget_c {z : List UInt8} (N : Int) (hz : s.getB N = z ∧ s.getE N = e) (H : Holds W L) (hm : Pull (stE p g v s) L L0) (k : ∀ A c w', Holds w' (rowE 5 A z.length c (bvs z) :: stE p g v s :: L0) → R (.returned (.tuple #[.slice A z.length c, .int .i64 e])) w') :
    Calls Tryz.prog 30 #[.pointer (some ⟨p, 0, none⟩), .int .i64 N] W R := by
  obtain ⟨rfl, rfl⟩ := hz
  unfold Sd.getB Sd.getE at *
  by_cases h : 0 ≤ N ∧ N < s.ls.length
  · rw [if_pos h, if_pos h] at k
    obtain ⟨n, rfl⟩ : ∃ n : Nat, N = n := ⟨N.toNat, by omega⟩
    obtain ⟨x, hx⟩ : ∃ x, s.ls[n]? = some x := ⟨_, List.getElem?_eq_getElem (by omega)⟩
    rw [Int.toNat_natCast, hx, Option.getD_some] at k
    exact sget_k n x hx H hm fun A w' h => k _ _ w' h
  · rw [if_neg h, if_neg h] at k
    exact sget_no N (by omega) H hm fun w' h => k none 0 w' (h.add_nil 5 1).to_row
theorem rsget_c {z : List UInt8} (N : Int) (hz : s.getB N = z ∧ s.getE N = e) (H : Holds W L) (hm : Pull (rsE p g v s) L L0) (k : ∀ A c w', Holds w' (rowE 5 A z.length c (bvs z) :: rsE p g v s :: L0) → R (.returned (.tuple #[.slice A z.length c, .int .i64 e])) w') :
    Calls Tryz.prog 31 #[.pointer (some ⟨p, 0, none⟩), .int .i64 N] W R := by
  obtain ⟨rfl, rfl⟩ := hz
  unfold Sd.getB Sd.getE at *
  by_cases h : 0 ≤ N ∧ N < s.ls.length
  · rw [if_pos h, if_pos h] at k
    obtain ⟨n, rfl⟩ : ∃ n : Nat, N = n := ⟨N.toNat, by omega⟩
    obtain ⟨x, hx⟩ : ∃ x, s.ls[n]? = some x := ⟨_, List.getElem?_eq_getElem (by omega)⟩
    rw [Int.toNat_natCast, hx, Option.getD_some] at k
    exact rsget_k n x hx H hm fun A c w' h => k _ _ w' h
  · rw [if_neg h, if_neg h] at k
    exact rsget_no N (by omega) H hm fun w' h => k none 0 w' (h.add_nil 5 1).to_row
set_option maxRecDepth 100000 in
set_option maxHeartbeats 1000000 in
theorem rsopen_arg (hNM : N < 0 ∨ M < 1 ∨ (d.su.length : Int) < N ∨ (d.su.length : Int) - N < M) (h4 : d.su.length ≤ 4096) (H : Holds W L) (hm : Pull (rdE g rv d) L L0) (k : ∀ w', Holds w' (rdE g rv d :: L0) → R (.returned (.tuple #[.pointer none, .int .i64 1])) w') :
    Calls Tryz.prog 8 #[.pointer (some ⟨g, 0, none⟩), .int .i64 N, .int .i64 M] W R := by
  have H2 := H.pull hm
  clear H hm
  have H := H2
  clear H2
  have HK := Lib.hid k; clear k
  by_cases c1 : N < 0
  · clear hNM
    go_enter Tryz.func8, Tryz.ntmps8
    go_wp2_with (first | go_big_skip )
    exact HK.out _ H
  · by_cases c2 : M < 1
    · clear hNM
      go_enter Tryz.func8, Tryz.ntmps8
      go_wp2_with (first | go_big_skip )
      exact HK.out _ H
    · by_cases c3 : (d.su.length : Int) < N
      · clear hNM
        go_enter Tryz.func8, Tryz.ntmps8
        go_wp2_with (first | ((with_reducible apply rlen_k H); (case hm => exact Pull.here); clear H; (try clear W); intro W H))
        exact HK.out _ H
      · have c4 : (d.su.length : Int) - N < M := by omega
        have e5 := Lib.hid (wrapI (x := (d.su.length : Int) - N) (by omega) (by omega))
        clear hNM
        go_enter Tryz.func8, Tryz.ntmps8
        go_wp2_with (first | ((with_reducible apply rlen_k H); (case hm => exact Pull.here); clear H; (try clear W); intro W H))
        exact HK.out _ H
end
end Go.Proofs.YtdnioigcgggdbaaGreatDoor
set_option linter.unusedVariables false
set_option linter.unusedSimpArgs false
namespace Go.Proofs.YtdnioigcgggdbaaGreatDoor
open Go.RowKit

theorem u8_of_wf {z : Int} (h : (Lit.int .u8 z).wf = true) : ((UInt8.ofNat z.toNat).toNat : Int) = z := by
  have := bounds_u8 h
  rw [UInt8.toNat_ofNat']; omega
theorem rd_of_ints {W : World} {x : Addr} {len cap : Nat} {zs : List Int} (hl : len ≤ cap) (hm : cap ≤ maxLen) (hz : zs.length = cap) (hcell : ∀ i, i < zs.length → W.cell? (x.add i) = some (.int .u8 (zs.getD i 0))) (hwz : ∀ n ∈ zs, (Lit.int .u8 n).wf = true) :
    ∃ l, Rd W 1 (some x) len cap (bvs l) := by
  refine ⟨(zs.take len).map fun z => UInt8.ofNat z.toNat, hl, hm, by simp [bvs]; omega, (fun h => by cases h), fun hp => ?_⟩
  obtain ⟨b, o, rfl, hc⟩ := ints_at hcell (by omega)
  refine ⟨b, o, rfl, fun j hj => ?_⟩
  have hj' : j < zs.length := by omega
  rw [hc j hj', bvs_getElem?, List.getElem?_map, List.getElem?_take, if_pos (by omega), List.getElem?_eq_getElem hj', List.getD_eq_getElem?_getD, List.getElem?_eq_getElem hj']
  simp only [Option.getD_some, Option.map_some]
  unfold bv
  rw [u8_of_wf (hwz _ (List.getElem_mem hj'))]
end Go.Proofs.YtdnioigcgggdbaaGreatDoor
namespace Go.Proofs.YtdnioigcgggdbaaGreatDoor
open Go.RowKit Go.ChangeShapes Go.WideShapes

section
variable {H : Type} {enc : TypeId × Value → H} {P : Program} {W : World} {base : Nat} {spare : Nat → Bool} {held : Bool}
end
end Go.Proofs.YtdnioigcgggdbaaGreatDoor
