/-
  stores: what stands in a region, what Open and Add come to, in plain terms.
  stores: the reference's bytes and noughts.
-/
import Derived.Test.YtdnioigcgggdbaaGreatDoorMak
import Derived.Test.YtdnioigcgggdbaaGreatDoorStm4
import Derived.Test.YtdnioigcgggdbaaGreatDoorMae
import Derived.Test.YtdnioigcgggdbaaGreatDoorMai
set_option linter.unusedVariables false
set_option linter.unusedSimpArgs false
namespace Go.Proofs.YtdnioigcgggdbaaGreatDoor
open Go.RowKit
def Dd.sec (d : Dd) (i : Nat) : List UInt8 := d.no[i]?.getD []
/-- what stands in a region, one byte behind the other, of its first j sectors. -/
def flatN (d : Dd) (fr : Nat) : Nat → List UInt8
  | 0 => []
  | j + 1 => flatN d fr j ++ d.sec (fr + j)
/-- those of the first j sectors that are not all noughts. -/
def dirtyN (d : Dd) (fr : Nat) : Nat → List Nat
  | 0 => []
  | j + 1 => if (d.sec (fr + j)).any (· != 0) then dirtyN d fr j ++ [j] else dirtyN d fr j
theorem dirtyN_len (d : Dd) (fr : Nat) : ∀ j, (dirtyN d fr j).length ≤ j
  | 0 => Nat.le_refl _
  | j + 1 => by
    have := dirtyN_len d fr j
    rw [dirtyN]
    split
    · rw [List.length_append, List.length_singleton]; omega
    · omega
theorem flatN_len {v : Dv} {d : Dd} (ho : DOk v d) (fr : Nat) : ∀ j, fr + j ≤ d.su.length → (flatN d fr j).length = 64 * j
  | 0, _ => rfl
  | j + 1, h => by
    have h1 := flatN_len ho fr j (by omega)
    obtain ⟨s, hs⟩ : ∃ s, d.no[fr + j]? = some s := ⟨_, List.getElem?_eq_getElem (by rw [ho.nn]; omega)⟩
    have h2 := ho.nl s (List.mem_of_getElem? hs)
    rw [flatN, List.length_append, h1]
    unfold Dd.sec
    rw [hs, Option.getD_some, h2]
    omega
theorem readR_ok : ∀ (f k : Nat) (x : List UInt8) (m : Nat), x.length ≤ 64 * m → (readR f k x).2 ≤ m ∧ (readR f k x).1.length ≤ (readR f k x).2 ∧ ∀ r ∈ (readR f k x).1, r.length ≤ 256
  | 0, _, _, _, _ => ⟨Nat.zero_le _, Nat.le_refl _, fun r hr => by cases hr⟩
  | f + 1, k, x, m, h => by
    rw [readR]
    by_cases hc : fErr x = 0 ∧ fNum x = k + 1
    · rw [if_pos hc]
      obtain ⟨h1, h2, h3⟩ := fErr_ok hc.1
      have h4 := secs_pos (fMany x)
      obtain ⟨g1, g2, g3⟩ := readR_ok f (k + 1) (x.drop (secs (fMany x) * 64)) (m - secs (fMany x)) (by rw [List.length_drop]; omega)
      refine ⟨by simp only; omega, by simp only [List.length_cons]; omega, fun r hr => ?_⟩
      rcases List.mem_cons.1 hr with rfl | hr
      · unfold fRec; rw [List.length_take]; omega
      · exact g3 r hr
    · rw [if_neg hc]
      exact ⟨Nat.zero_le _, Nat.le_refl _, fun r hr => by cases hr⟩
theorem dirtyN_lt (d : Dd) (fr : Nat) : ∀ j, ∀ i ∈ dirtyN d fr j, i < j
  | 0, i, h => by cases h
  | j + 1, i, h => by
    rw [dirtyN] at h
    split at h
    · rcases List.mem_append.1 h with h | h
      · have := dirtyN_lt d fr j i h; omega
      · obtain rfl := List.mem_singleton.1 h; omega
    · have := dirtyN_lt d fr j i h; omega
theorem write_su (d : Dd) (N : Int) (b : List UInt8) : (d.write N b).1.su = d.su := by
  unfold Dd.write
  split
  · rfl
  · split <;> rfl
/-- steps, one behind the other, until one is not let be: none: Sync; else a write. -/
def runS : List (Option (Nat × List UInt8)) → Dd → Dd × Int
  | [], d => (d, 0)
  | none :: l, d => if d.sync.2 = 0 then runS l d.sync.1 else d.sync
  | some x :: l, d => if (d.write (x.1 : Int) x.2).2 = 0 then runS l (d.write (x.1 : Int) x.2).1 else d.write (x.1 : Int) x.2
def wipe (fr : Nat) (l : List Nat) (d : Dd) : Dd × Int := runS (l.map fun i => some (fr + i, [])) d
theorem wipe_nil (fr : Nat) (d : Dd) : wipe fr [] d = (d, 0) := rfl
theorem wipe_cons (fr : Nat) (i : Nat) (l : List Nat) (d : Dd) : wipe fr (i :: l) d = if (d.write ((fr + i : Nat) : Int) []).2 = 0 then wipe fr l (d.write ((fr + i : Nat) : Int) []).1 else d.write ((fr + i : Nat) : Int) [] := rfl
/-- the records, how many sectors they take, and which others are not all noughts. -/
def regR (d : Dd) (fr mn : Nat) : List (List UInt8) := (readR (mn + 1) 0 (flatN d fr mn)).1
def regE (d : Dd) (fr mn : Nat) : Nat := (readR (mn + 1) 0 (flatN d fr mn)).2
def regD (d : Dd) (fr mn : Nat) : List Nat := keptN (regE d fr mn) (dirtyN d fr mn)
def openR (d : Dd) (fr mn : Nat) : Dd × Option Sd × Int :=
  if (regD d fr mn).any (fun i => decide (regE d fr mn + 5 ≤ i)) then (d, none, 4)
  else if (wipe fr (regD d fr mn) d).2 = 0 then
    (if (wipe fr (regD d fr mn) d).1.sync.2 = 0 then ((wipe fr (regD d fr mn) d).1.sync.1, some ⟨fr, mn, regE d fr mn, regR d fr mn⟩, 0) else ((wipe fr (regD d fr mn) d).1.sync.1, none, (wipe fr (regD d fr mn) d).1.sync.2))
  else ((wipe fr (regD d fr mn) d).1, none, (wipe fr (regD d fr mn) d).2)
/-- so many pieces of 64 bytes. -/
def chunk : Nat → List UInt8 → List (List UInt8)
  | 0, _ => []
  | n + 1, x => x.take 64 :: chunk n (x.drop 64)
/-- a frame's sectors. -/
def frS (k : Nat) (b : List UInt8) : List (List UInt8) := chunk (secs b.length) (putF k b)
/-- the writes of sectors, one behind the other. -/
def wrs : Nat → List (List UInt8) → List (Option (Nat × List UInt8))
  | _, [] => []
  | n, x :: l => some (n, x) :: wrs (n + 1) l
/-- what Add does: at: where the frame begins. -/
def stepsF (at_ : Nat) (F : List (List UInt8)) : List (Option (Nat × List UInt8)) :=
  none :: (wrs (at_ + 1) (F.drop 1) ++ ((if F.length ≤ 1 then [] else [none]) ++ [some (at_, F[0]?.getD [])]))
def addR (d : Dd) (s : Sd) (b : List UInt8) : Dd × Sd × Int :=
  if 256 < b.length then (d, s, 3)
  else if s.mn - s.en < secs b.length then (d, s, 11)
  else
    let r := runS (stepsF (s.fr + s.en) (frS (s.ls.length + 1) b)) d
    if r.2 = 0 then (r.1, ⟨s.fr, s.mn, s.en + secs b.length, s.ls ++ [b]⟩, 0) else (r.1, s, r.2)
end Go.Proofs.YtdnioigcgggdbaaGreatDoor
set_option linter.unusedVariables false
set_option linter.unusedSimpArgs false
namespace Go.Proofs.YtdnioigcgggdbaaGreatDoor
open Go.RowKit
def allZ (s : List UInt8) (j : Nat) : Prop := (s.take j).any (· != 0) = false
section
variable {W : World} {L L' L0 L1 : List Ent} {R : Ending → World → Prop} {p g fr mn : Nat} {r : List Value} {rv : Rv} {d : Dd}
theorem rread_at (n : Nat) {N : Int} (s : List UInt8) (hN : N = (n : Int)) (hs : d.no[n]? = some s) (H : Holds W L) (hm : Pull (rdE g rv d) L L0) (k : ∀ A c w', Holds w' (ownE 5 1 (.slice A 64 c) 64 (bvs s) :: rdE g rv d :: L0) → R (.returned (.tuple #[.slice A 64 c, .int .i64 0])) w') :
    Calls Tryz.prog 61 #[.pointer (some ⟨g, 0, none⟩), .int .i64 N] W R := by
  subst hN
  exact rread_k n s hs H hm k
set_option maxRecDepth 100000 in
set_option maxHeartbeats 1000000 in
/-- bytes from the first sector on. -/
theorem rbytes_k (h1 : fr + mn ≤ d.su.length) (h4 : d.su.length ≤ 4096) (hnn : d.no.length = d.su.length) (hnl : ∀ s ∈ d.no, s.length = 64) (H : Holds W L) (hp : blk p (.pointer (some ⟨g, 0, none⟩) :: .int .i64 fr :: .int .i64 mn :: r) 87 ∈ L0) (hm : Pull (rdE g rv d) L L0)
    (k : ∀ A c w', Holds w' (ownE 5 1 (.slice A (64 * mn) c) (64 * mn) (bvs (flatN d fr mn)) :: rdE g rv d :: L0) → R (.returned (.slice A (64 * mn) c)) w') :
    Calls Tryz.prog 45 #[.pointer (some ⟨p, 0, none⟩), .int .i64 0] W R := by
  have H2 := H.pull hm
  clear H hm
  have H := H2.add_nil 5 1
  clear H2
  have HK := Lib.hid k; clear k
  have Hnl := Lib.hid hnl
  clear hnl
  go_enter Tryz.func45, Tryz.ntmps45
  go_wp2_with (first | go_big_skip )
  go_loopw [5, 6] (fun bv iv wr => ∃ (j : Nat) (A : Option Addr) (c : Nat), j ≤ mn ∧ iv = .int .i64 j ∧ bv = .slice A (64 * j) c ∧ Holds wr (ownE 5 1 (.slice A (64 * j) c) (64 * j) (bvs (flatN d fr j)) :: rdE g rv d :: L0)) (fun _ iv _ => mn - (intOf iv).toNat)
  case atStart => exact ⟨0, none, 0, by omega, rfl, rfl, H⟩
  case round =>
    clear H
    obtain ⟨j, A, c, hj, rfl, rfl, H⟩ := hrel
    rename World => W
    by_cases hlt : j < mn
    · have hji : (j : Int) < mn := by omega
      obtain ⟨s, hs⟩ : ∃ s, d.no[fr + j]? = some s := ⟨_, List.getElem?_eq_getElem (by omega)⟩
      have hs64 := Hnl.out s (List.mem_of_getElem? hs)
      have hf : flatN d fr (j + 1) = flatN d fr j ++ s := by rw [flatN]; unfold Dd.sec; rw [hs, Option.getD_some]
      have Hf := Lib.hid hf
      have Hs := Lib.hid hs
      have e1 := Lib.hid (wrapI (x := (fr : Int) + (j : Int)) (by omega) (by omega))
      clear hs hf hs64
      go_wp2_with (first | ((with_reducible apply wpl_load H); (case hs => exact sc _ rfl); (case hw | hx => rfl); (case hm => (with_reducible repeat first | assumption | apply mT)); (case hv => rfl)) )
      ((refine wp_region_J [10] H (by kernel_rfl) ?_); clear H; (try clear W); intro W H; (apply anyJ_takeP 0 (oi := Oper.mk _ _ _ _ _ _) rfl); (case hs | hf => kernel_rfl); (case hr | hF => kernel_rfl); (case hQ => exact fun _ _ _ h => h); (case H => first | exact .inr H ); (case hy => first | (apply yields_pure rfl; intro w; first | (go_simp; with_reducible rfl) )); (try simp only [Act.put, sA, sB, sC]); (apply anyJ_takeP 1 (oi := Oper.mk _ _ _ _ _ _) rfl); (case hs | hf => kernel_rfl); (case hr | hF => kernel_rfl); (case hQ => exact fun _ _ _ h => h); (case H => first | exact .inr H ); (case hy => first | (apply yields_pure rfl; intro w; first | (go_simp; with_reducible rfl) )); (try simp only [Act.put, sA, sB, sC]); (apply anyJ_takeP 2 (oi := Oper.mk _ _ _ _ _ _) rfl); (case hs | hf => kernel_rfl); (case hr | hF => kernel_rfl); (case hQ => exact fun _ _ _ h => h); (case H => first | exact .inr H ); (case hy => first | (apply yields_pure rfl; intro w; first | (go_simp; with_reducible rfl) )); (try simp only [Act.put, sA, sB, sC]); (apply anyJ_takeP 4 (oi := Oper.mk _ _ _ _ _ _) rfl); (case hs | hf => kernel_rfl); (case hr | hF => kernel_rfl); (case hQ => exact fun _ _ _ h => h); (case H => first | exact .inr H ); (case hy => first | (apply yields_pure rfl; intro w; first | (go_simp; with_reducible rfl) )); (try simp only [Act.put, sA, sB, sC]); (apply anyJ_takeP 5 (oi := Oper.mk _ _ _ _ _ _) rfl); (case hs | hf => kernel_rfl); (case hr | hF => kernel_rfl); (case hQ => exact fun _ _ _ h => h); (case H => first | exact .inr H ); (case hy => first | (apply yields_pure rfl; intro w; first | (go_simp; with_reducible rfl) )); (try simp only [Act.put, sA, sB, sC]); (apply anyJ_takeP 6 (oi := Oper.mk _ _ _ _ _ _) rfl); (case hs | hf => kernel_rfl); (case hr | hF => kernel_rfl); (case hQ => exact fun _ _ _ h => h); (case H => first | exact .inr H ); (case hy => first | (apply yields_pure rfl; intro w; first | (go_simp; with_reducible rfl) )); (try simp only [Act.put, sA, sB, sC]); (apply anyJ_takeP 8 (oi := Oper.mk _ _ _ _ _ _) rfl); (case hs | hf => kernel_rfl); (case hr | hF => kernel_rfl); (case hQ => exact fun _ _ _ h => h); (case H => first | exact .inr H ); (case hy => first | (apply yields_pure rfl; intro w; first | (go_simp; with_reducible rfl) )); (try simp only [Act.put, sA, sB, sC]); (apply anyJ_take 3 (oi := Oper.mk _ _ _ _ _ _) rfl); (case hs | hf => kernel_rfl); (case hr | hc | hF => kernel_rfl); (case hQ => exact fun _ _ _ h => h); (case H => first | exact H ); (case hy => (first | ((apply yields_load); (case hs => exact sc _ rfl); (case hw | hx => rfl); (case hm => (with_reducible repeat first | assumption | apply mT)); (case hv => rfl)) )); (try simp only [Act.put, sA, sB, sC]); (apply anyJ_take 7 (oi := Oper.mk _ _ _ _ _ _) rfl); (case hs | hf => kernel_rfl); (case hr | hc | hF => kernel_rfl); (case hQ => exact fun _ _ _ h => h); (case H => first | exact H ); (case hy => (first | ((apply yields_load); (case hs => exact sc _ rfl); (case hw | hx => rfl); (case hm => (with_reducible repeat first | assumption | apply mT)); (case hv => rfl)) )); (try simp only [Act.put, sA, sB, sC]); (apply anyJ_takeP 9 (oi := Oper.mk _ _ _ _ _ _) rfl); (case hs | hf => kernel_rfl); (case hr | hF => kernel_rfl); (case hQ => exact fun _ _ _ h => h); (case H => first | exact .inr H ); (case hy => first | (apply yields_pure rfl; intro w; first | (go_simp; with_reducible rfl) )); (try simp only [Act.put, sA, sB, sC]); (apply anyJ_one 10 (o := Oper.mk _ _ _ _ _ _)); (case hr => kernel_rfl); (case hi | hw => rfl); intro K hK; (first | (go_simp; (with_reducible apply rread_at (fr + j) s); (case hN => first | (rw [e1.out]; omega) ); (case hs => exact Hs.out); (case H => exact H); (case hm => (with_reducible repeat first | exact Pull.here | apply Pull.there)); clear H; (try clear W); intro b8 c8 W H) ); (refine hK.out _ _ ?_ ?_); (· first | exact .inl rfl ); clear hK K; (try simp only [Act.put, sA, sB, sC]); (apply anyJ_takeP 11 (oi := Oper.mk _ _ _ _ _ _) rfl); (case hs | hf => kernel_rfl); (case hr | hF => kernel_rfl); (case hQ => exact fun _ _ _ h => h); (case H => first | exact .inl rfl ); (case hy => first | (apply yields_pure rfl; intro w; first | (go_simp; with_reducible rfl) )); (try simp only [Act.put, sA, sB, sC]); (apply anyJ_takeP 12 (oi := Oper.mk _ _ _ _ _ _) rfl); (case hs | hf => kernel_rfl); (case hr | hF => kernel_rfl); (case hQ => exact fun _ _ _ h => h); (case H => first | exact .inl rfl ); (case hy => first | (apply yields_pure rfl; intro w; first | (go_simp; with_reducible rfl) )); (try simp only [Act.put, sA, sB, sC]); (apply anyJ_takeP 13 (oi := Oper.mk _ _ _ _ _ _) rfl); (case hs | hf => kernel_rfl); (case hr | hF => kernel_rfl); (case hQ => exact fun _ _ _ h => h); (case H => first | exact .inl rfl ); (case hy => first | (apply yields_pure rfl; intro w; first | (go_simp; with_reducible rfl) )); (try simp only [Act.put, sA, sB, sC]); (apply anyJ_takeP 14 (oi := Oper.mk _ _ _ _ _ _) rfl); (case hs | hf => kernel_rfl); (case hr | hF => kernel_rfl); (case hQ => exact fun _ _ _ h => h); (case H => first | exact .inl rfl ); (case hy => first | (apply yields_pure rfl; intro w; first | (go_simp; with_reducible rfl) )); (try simp only [Act.put, sA, sB, sC]); (apply anyJ_takeP 15 (oi := Oper.mk _ _ _ _ _ _) rfl); (case hs | hf => kernel_rfl); (case hr | hF => kernel_rfl); (case hQ => exact fun _ _ _ h => h); (case H => first | exact .inl rfl ); (case hy => first | (apply yields_pure rfl; intro w; first | (go_simp; with_reducible rfl) )); (try simp only [Act.put, sA, sB, sC]); (apply anyJ_done (by kernel_rfl)))
      go_wp2_with (first | ((with_reducible apply wpl_app H); (case hw | hs | hx => rfl); (case ht => exact Tryz.underlying50); (case hinfo => exact inf_5); (case hm => (with_reducible repeat first | exact Pull.here | apply Pull.there)); (case hzs => rfl); (case hsz => decide); (case hr => exact gives_own (by (with_reducible repeat first | exact mH)) rfl); (case h1 => exact bvs_oneCell _); (case h63 => (simp only [maxLen]; omega)); (case hbytes => omega); clear H; (try clear W); intro A3 n3 c3 W hn3 H hle3 htop3; obtain rfl := hn3.out; clear hn3))
      refine ⟨⟨j + 1, A3, c3, by omega, congrArg (Value.int .i64) (by omega), by rw [show 64 * (j + 1) = 64 * j + 64 from by omega], ?_⟩, by simp only [intOf]; omega⟩
      rw [show 64 * (j + 1) = 64 * j + 64 from by omega, Hf.out, bvs_append]
      exact Reord.use H (by ((repeat (with_reducible apply Reord.cons; (case p => (with_reducible repeat first | exact Pull.here | apply Pull.there)))); repeat (first | with_reducible exact Reord.rest | with_reducible apply Reord.drop)))
    · obtain rfl : j = mn := by omega
      go_wp2_with (first | ((with_reducible apply wpl_load H); (case hs => exact sc _ rfl); (case hw | hx => rfl); (case hm => (with_reducible repeat first | assumption | apply mT)); (case hv => rfl)) )
      exact HK.out _ _ _ H
set_option maxRecDepth 100000 in
set_option maxHeartbeats 1000000 in
/-- are they all noughts? -/
theorem rnoughts_k {N : Int} (i : Nat) (hN : N = (i : Int)) (h1 : fr + i < d.su.length) (h4 : d.su.length ≤ 4096) (hnn : d.no.length = d.su.length) (hnl : ∀ s ∈ d.no, s.length = 64) (H : Holds W L) (hm : Pull (rdE g rv d) L L0) (hp : blk p (.pointer (some ⟨g, 0, none⟩) :: .int .i64 fr :: r) 87 ∈ L0)
    (k : ∀ w', Holds w' (rdE g rv d :: L0) → R (.returned (.bool (!(d.sec (fr + i)).any (· != 0)))) w') :
    Calls Tryz.prog 47 #[.pointer (some ⟨p, 0, none⟩), .int .i64 N] W R := by
  subst hN
  have H2 := H.pull hm
  clear H hm
  have H := H2
  clear H2
  obtain ⟨s, hs⟩ : ∃ s, d.no[fr + i]? = some s := ⟨_, List.getElem?_eq_getElem (by omega)⟩
  have hs64 := hnl s (List.mem_of_getElem? hs)
  have hse : d.sec (fr + i) = s := by unfold Dd.sec; rw [hs, Option.getD_some]
  rw [hse] at k
  have HK := Lib.hid k; clear k
  have Hs := Lib.hid hs
  have e1 := Lib.hid (wrapI (x := (fr : Int) + (i : Int)) (by omega) (by omega))
  clear hs hnl hse
  go_enter Tryz.func47, Tryz.ntmps47
  go_wp2_with (first | go_big_skip )
  ((refine wp_region_J [10] H (by kernel_rfl) ?_); clear H; (try clear W); intro W H; (apply anyJ_takeP 0 (oi := Oper.mk _ _ _ _ _ _) rfl); (case hs | hf => kernel_rfl); (case hr | hF => kernel_rfl); (case hQ => exact fun _ _ _ h => h); (case H => first | exact .inr H ); (case hy => first | (apply yields_pure rfl; intro w; first | (go_simp; with_reducible rfl) )); (try simp only [Act.put, sA, sB, sC]); (apply anyJ_takeP 1 (oi := Oper.mk _ _ _ _ _ _) rfl); (case hs | hf => kernel_rfl); (case hr | hF => kernel_rfl); (case hQ => exact fun _ _ _ h => h); (case H => first | exact .inr H ); (case hy => first | (apply yields_pure rfl; intro w; first | (go_simp; with_reducible rfl) )); (try simp only [Act.put, sA, sB, sC]); (apply anyJ_takeP 2 (oi := Oper.mk _ _ _ _ _ _) rfl); (case hs | hf => kernel_rfl); (case hr | hF => kernel_rfl); (case hQ => exact fun _ _ _ h => h); (case H => first | exact .inr H ); (case hy => first | (apply yields_pure rfl; intro w; first | (go_simp; with_reducible rfl) )); (try simp only [Act.put, sA, sB, sC]); (apply anyJ_takeP 4 (oi := Oper.mk _ _ _ _ _ _) rfl); (case hs | hf => kernel_rfl); (case hr | hF => kernel_rfl); (case hQ => exact fun _ _ _ h => h); (case H => first | exact .inr H ); (case hy => first | (apply yields_pure rfl; intro w; first | (go_simp; with_reducible rfl) )); (try simp only [Act.put, sA, sB, sC]); (apply anyJ_takeP 5 (oi := Oper.mk _ _ _ _ _ _) rfl); (case hs | hf => kernel_rfl); (case hr | hF => kernel_rfl); (case hQ => exact fun _ _ _ h => h); (case H => first | exact .inr H ); (case hy => first | (apply yields_pure rfl; intro w; first | (go_simp; with_reducible rfl) )); (try simp only [Act.put, sA, sB, sC]); (apply anyJ_takeP 6 (oi := Oper.mk _ _ _ _ _ _) rfl); (case hs | hf => kernel_rfl); (case hr | hF => kernel_rfl); (case hQ => exact fun _ _ _ h => h); (case H => first | exact .inr H ); (case hy => first | (apply yields_pure rfl; intro w; first | (go_simp; with_reducible rfl) )); (try simp only [Act.put, sA, sB, sC]); (apply anyJ_takeP 8 (oi := Oper.mk _ _ _ _ _ _) rfl); (case hs | hf => kernel_rfl); (case hr | hF => kernel_rfl); (case hQ => exact fun _ _ _ h => h); (case H => first | exact .inr H ); (case hy => first | (apply yields_pure rfl; intro w; first | (go_simp; with_reducible rfl) )); (try simp only [Act.put, sA, sB, sC]); (apply anyJ_take 3 (oi := Oper.mk _ _ _ _ _ _) rfl); (case hs | hf => kernel_rfl); (case hr | hc | hF => kernel_rfl); (case hQ => exact fun _ _ _ h => h); (case H => first | exact H ); (case hy => (first | ((apply yields_load); (case hs => exact sc _ rfl); (case hw | hx => rfl); (case hm => (with_reducible repeat first | assumption | apply mT)); (case hv => rfl)) )); (try simp only [Act.put, sA, sB, sC]); (apply anyJ_take 7 (oi := Oper.mk _ _ _ _ _ _) rfl); (case hs | hf => kernel_rfl); (case hr | hc | hF => kernel_rfl); (case hQ => exact fun _ _ _ h => h); (case H => first | exact H ); (case hy => (first | ((apply yields_load); (case hs => exact sc _ rfl); (case hw | hx => rfl); (case hm => (with_reducible repeat first | assumption | apply mT)); (case hv => rfl)) )); (try simp only [Act.put, sA, sB, sC]); (apply anyJ_takeP 9 (oi := Oper.mk _ _ _ _ _ _) rfl); (case hs | hf => kernel_rfl); (case hr | hF => kernel_rfl); (case hQ => exact fun _ _ _ h => h); (case H => first | exact .inr H ); (case hy => first | (apply yields_pure rfl; intro w; first | (go_simp; with_reducible rfl) )); (try simp only [Act.put, sA, sB, sC]); (apply anyJ_one 10 (o := Oper.mk _ _ _ _ _ _)); (case hr => kernel_rfl); (case hi | hw => rfl); intro K hK; (first | (go_simp; (with_reducible apply rread_at (fr + i) s); (case hN => first | (rw [e1.out]; omega) ); (case hs => exact Hs.out); (case H => exact H); (case hm => (with_reducible repeat first | exact Pull.here)); clear H; (try clear W); intro b8 c8 W H) ); (refine hK.out _ _ ?_ ?_); (· first | exact .inl rfl ); clear hK K; (try simp only [Act.put, sA, sB, sC]); (apply anyJ_takeP 11 (oi := Oper.mk _ _ _ _ _ _) rfl); (case hs | hf => kernel_rfl); (case hr | hF => kernel_rfl); (case hQ => exact fun _ _ _ h => h); (case H => first | exact .inl rfl ); (case hy => first | (apply yields_pure rfl; intro w; first | (go_simp; with_reducible rfl) )); (try simp only [Act.put, sA, sB, sC]); (apply anyJ_takeP 12 (oi := Oper.mk _ _ _ _ _ _) rfl); (case hs | hf => kernel_rfl); (case hr | hF => kernel_rfl); (case hQ => exact fun _ _ _ h => h); (case H => first | exact .inl rfl ); (case hy => first | (apply yields_pure rfl; intro w; first | (go_simp; with_reducible rfl) )); (try simp only [Act.put, sA, sB, sC]); (apply anyJ_takeP 13 (oi := Oper.mk _ _ _ _ _ _) rfl); (case hs | hf => kernel_rfl); (case hr | hF => kernel_rfl); (case hQ => exact fun _ _ _ h => h); (case H => first | exact .inl rfl ); (case hy => first | (apply yields_pure rfl; intro w; first | (go_simp; with_reducible rfl) )); (try simp only [Act.put, sA, sB, sC]); (apply anyJ_takeP 14 (oi := Oper.mk _ _ _ _ _ _) rfl); (case hs | hf => kernel_rfl); (case hr | hF => kernel_rfl); (case hQ => exact fun _ _ _ h => h); (case H => first | exact .inl rfl ); (case hy => first | (apply yields_pure rfl; intro w; first | (go_simp; with_reducible rfl) )); (try simp only [Act.put, sA, sB, sC]); (apply anyJ_takeP 15 (oi := Oper.mk _ _ _ _ _ _) rfl); (case hs | hf => kernel_rfl); (case hr | hF => kernel_rfl); (case hQ => exact fun _ _ _ h => h); (case H => first | exact .inl rfl ); (case hy => first | (apply yields_pure rfl; intro w; first | (go_simp; with_reducible rfl) )); (try simp only [Act.put, sA, sB, sC]); (apply anyJ_done (by kernel_rfl)))
  obtain ⟨bb, hbb⟩ := own_some (H.all (ownE 5 1 (.slice b8 64 c8) 64 (bvs s)) (by (with_reducible repeat first | exact mH | assumption | apply mT))) (by decide)
  subst hbb
  go_wp2_with (first | go_big_skip )
  rw [e1.out]
  go_loopw [7] (fun iv wr => ∃ j : Nat, j ≤ 64 ∧ iv = .int .i64 j ∧ allZ s j ∧ Holds wr (ownE 5 1 (.slice (some ⟨bb, 0, none⟩) 64 c8) 64 (bvs s) :: rdE g rv d :: L0)) (fun iv _ => 64 - (intOf iv).toNat)
  case atStart => exact ⟨0, by omega, rfl, by unfold allZ; simp, Reord.use H (by ((repeat (with_reducible apply Reord.cons; (case p => (with_reducible repeat first | exact Pull.here)))); repeat (with_reducible exact Reord.rest)))⟩
  case round =>
    clear H
    obtain ⟨j, hj, rfl, he, H⟩ := hrel
    unfold allZ at he
    rename World => W
    by_cases hlt : j < 64
    · have hlk : j < s.length := by omega
      have hsn : (s.take (j + 1)).any (· != 0) = ((s.take j).any (· != 0) || (s[j] != 0)) := by
        rw [List.take_add_one, List.getElem?_eq_getElem hlk, List.any_append]
        simp
      have hall : s.any (· != 0) = ((s.take (j + 1)).any (· != 0) || (s.drop (j + 1)).any (· != 0)) := by
        rw [← List.any_append, List.take_append_drop]
      have hxx : (s[j] != 0) = (((s[j]).toNat : Int) != 0) := by
        by_cases h : s[j] = 0
        · rw [h]; rfl
        · have : (s[j]).toNat ≠ 0 := fun h' => h (UInt8.toNat_inj.1 h')
          rw [bne_iff_ne.2 h, bne_iff_ne.2 (show ((s[j]).toNat : Int) ≠ 0 by omega)]
      have Hsn := Lib.hid hsn
      have Hall := Lib.hid hall
      have He := Lib.hid he
      have hji : (j : Int) < 64 := by omega
      clear hsn hall he
      cases hz : (((s[j]).toNat : Int) != 0) with
      | true =>
        rw [hz] at hxx
        have hr : (!(s.any (· != 0))) = false := by rw [Hall.out, Hsn.out, hxx]; simp
        rw [hr] at HK
        clear hr hxx
        go_wp2_with (first | ((with_reducible apply wpl_loadB0 H); (case hs => exact sc _ rfl); (case hw | hx => rfl); (case hm => (first | (apply gives_own; (case h => (with_reducible repeat first | exact mH)); (case hn => rfl)) )); (case hj => first | assumption )) )
        exact HK.out _ H.tail
      | false =>
        rw [hz] at hxx
        have Hxx := Lib.hid hxx
        clear hxx
        go_wp2_with (first | ((with_reducible apply wpl_loadB0 H); (case hs => exact sc _ rfl); (case hw | hx => rfl); (case hm => (first | (apply gives_own; (case h => (with_reducible repeat first | exact mH)); (case hn => rfl)) )); (case hj => first | assumption )) )
        exact ⟨⟨j + 1, by omega, congrArg (Value.int .i64) (by omega), by unfold allZ; rw [Hsn.out, He.out, Hxx.out]; rfl, H⟩, by simp only [intOf]; omega⟩
    · obtain rfl : j = 64 := by omega
      rw [List.take_of_length_le (by omega)] at he
      rw [he] at HK
      clear he
      go_wp2_with (first | go_big_skip )
      exact HK.out _ H.tail
end
end Go.Proofs.YtdnioigcgggdbaaGreatDoor
