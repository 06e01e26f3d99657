/-
  Contracts over entries: nums.Put, nums.Get, Concat, Clone, Clip at bytes; frames.sectors, frames.Put.
  stores: a store as one entry (its disk is another one); none, Len, Left, Sync, Get.
  stores: Get.
  stores: the reference's store as one entry; Len, Left, Sync, Get.
-/
import Derived.Test.YtdnioigcgggdbaaGreatDoorMah
import Derived.Test.YtdnioigcgggdbaaGreatDoorMab
import Derived.Test.YtdnioigcgggdbaaGreatDoorMag
import Derived.Test.YtdnioigcgggdbaaGreatDoorDk6
set_option linter.unusedVariables false
set_option linter.unusedSimpArgs false
namespace Go.Proofs.YtdnioigcgggdbaaGreatDoor
open Go.RowKit

section
variable {W : World} {L L' L0 : List Ent} {R : Ending → World → Prop} {A : Option Addr} {m c : Nat} {l : List UInt8}
theorem own_gives_len {e : TypeId} {v : Value} {n : Nat} {l : List UInt8} {w : World} {base : Nat} (h : w.ownsRow base e 1 v n (bvs l)) : n = l.length := by
  have := h.1
  simpa [bvs] using this.symm
theorem nput_k {x k : Nat} {X K : Int} (G : Gives L fun w => Rd w 1 A m c (bvs l)) (hX : X = (x : Int)) (hK : K = (k : Int)) (hk : k ≤ 8) (hm : m ≤ 1000000) (H : Holds W L)
    (kk : ∀ A' m' c' w', m' = m + k → Holds w' (ownE 5 1 (.slice A' m' c') m' (bvs (l ++ be k x)) :: L) → R (.returned (.slice A' m' c')) w') :
    Calls Tryz.prog 103 #[.slice A m c, .int .u64 X, .int .i64 K] W R := by
  subst hX hK
  have hl := (G W H).blen
  refine (put_any A m c l x k (k : Int) hk (by omega) (by omega) W (G W H)).mono ?_
  rintro e w' ⟨A', m', c', rfl, ho, hx⟩
  have hm' := own_gives_len ho
  rw [List.length_append, be_length, hl] at hm'
  exact kk A' m' c' w' hm' (H.new_own hx ho)
theorem nget_k {K : Int} (G : Gives L fun w => Rd w 1 A m c (bvs l)) (H : Holds W L) (k : ∀ w', Holds w' L → R (.returned (.tuple #[.int .u64 ((getR l K).1 : Int), .int .i64 (getR l K).2])) w') :
    Calls Tryz.prog 144 #[.slice A m c, .int .i64 K] W R := by
  refine (get_any A m c l K W (G W H)).mono ?_
  rintro e w' ⟨rfl, rfl⟩
  exact k _ H
theorem concat_k (ps : List Piece) (G : Gives L fun w => Rd w 1 A m c (ps.map Piece.v)) (hps : ∀ p ∈ ps, Gives L fun w => Rd w 1 p.a p.n p.c (bvs p.l)) (hs : (pieces ps).length ≤ 70368744177664) (H : Holds W L)
    (k : ∀ A' m' c' w', m' = (pieces ps).length → Holds w' (ownE 5 1 (.slice A' m' c') m' (bvs (pieces ps)) :: L) → R (.returned (.slice A' m' c')) w') :
    Calls Tryz.prog 106 #[.slice A m c] W R := by
  refine (concat_any A m c ps W (G W H) (fun p hp => hps p hp W H) hs).mono ?_
  rintro e w' ⟨A', m', c', rfl, ho, hx⟩
  exact k A' m' c' w' (own_gives_len ho) (H.new_own hx ho)
theorem bclone_k (G : Gives L fun w => Rd w 1 A m c (bvs l)) (hm : m ≤ 1000000) (H : Holds W L) (k : ∀ A' m' c' w', m' = m → Holds w' (ownE 5 1 (.slice A' m' c') m' (bvs l) :: L) → R (.returned (.slice A' m' c')) w') :
    Calls Tryz.prog 58 #[.slice A m c] W R := by
  have hl := (G W H).blen
  refine (clone_any A m c l (by omega) W (G W H)).mono ?_
  rintro e w' ⟨A', m', c', rfl, ho, hx⟩
  exact k A' m' c' w' ((own_gives_len ho).trans hl) (H.new_own hx ho)
theorem bclip_k (hm : m ≤ c) (H : Holds W L) (k : ∀ w', Holds w' L → R (.returned (.slice A m m)) w') : Calls Tryz.prog 94 #[.slice A m c] W R := by
  refine (clip_any A m c hm W).mono ?_
  rintro e w' ⟨rfl, rfl⟩
  exact k _ H
theorem quo64 (n : Nat) : (18 + (n : Int) + 64 - 1) / 64 = ((secs n : Nat) : Int) := by
  unfold secs
  omega
set_option maxRecDepth 100000 in
set_option maxHeartbeats 1000000 in
theorem sectors_k {n : Nat} {N : Int} (hN : N = (n : Int)) (hn : n ≤ 1000000) (H : Holds W L) (k : ∀ w', Holds w' L → R (.returned (.int .i64 (secs n : Nat))) w') :
    Calls Tryz.prog 102 #[.int .i64 N] W R := by
  have HK := Lib.hid k; clear k
  subst hN
  go_enter Tryz.func102, Tryz.ntmps102
  go_wp2_with (first | go_big_skip )
  have := HK.out _ H
  rw [← quo64 n] at this
  exact this
theorem gives_nilB {L : List Ent} : Gives L fun w => Rd w 1 none 0 0 (bvs []) := fun w H => ⟨Nat.le_refl _, by simp [maxLen], rfl, fun _ => rfl, fun h => absurd h (by decide)⟩
theorem concat4_k {A1 A2 A3 A4 : Option Addr} {n1 n2 n3 n4 c1 c2 c3 c4 : Nat} {l1 l2 l3 l4 : List UInt8} (G : Gives L fun w => Rd w 1 A 4 c [.slice A1 n1 c1, .slice A2 n2 c2, .slice A3 n3 c3, .slice A4 n4 c4])
    (g1 : Gives L fun w => Rd w 1 A1 n1 c1 (bvs l1)) (g2 : Gives L fun w => Rd w 1 A2 n2 c2 (bvs l2)) (g3 : Gives L fun w => Rd w 1 A3 n3 c3 (bvs l3)) (g4 : Gives L fun w => Rd w 1 A4 n4 c4 (bvs l4)) (hs : n1 + n2 + n3 + n4 ≤ 1000000) (H : Holds W L)
    (k : ∀ A' m' c' w', m' = n1 + n2 + n3 + n4 → Holds w' (ownE 5 1 (.slice A' m' c') m' (bvs (l1 ++ (l2 ++ (l3 ++ l4)))) :: L) → R (.returned (.slice A' m' c')) w') :
    Calls Tryz.prog 106 #[.slice A 4 c] W R := by
  have e : pieces [⟨A1, n1, c1, l1⟩, ⟨A2, n2, c2, l2⟩, ⟨A3, n3, c3, l3⟩, ⟨A4, n4, c4, l4⟩] = l1 ++ (l2 ++ (l3 ++ l4)) := by simp [pieces]
  have h1 := (g1 W H).blen
  have h2 := (g2 W H).blen
  have h3 := (g3 W H).blen
  have h4 := (g4 W H).blen
  have hl : (l1 ++ (l2 ++ (l3 ++ l4))).length = n1 + n2 + n3 + n4 := by simp only [List.length_append]; omega
  refine concat_k [⟨A1, n1, c1, l1⟩, ⟨A2, n2, c2, l2⟩, ⟨A3, n3, c3, l3⟩, ⟨A4, n4, c4, l4⟩] G ?_ (by rw [e, hl]; omega) H ?_
  · intro p hp
    simp only [List.mem_cons, List.not_mem_nil, or_false] at hp
    rcases hp with rfl | rfl | rfl | rfl
    · exact g1
    · exact g2
    · exact g3
    · exact g4
  · rw [e, hl]
    exact k
end
end Go.Proofs.YtdnioigcgggdbaaGreatDoor
set_option linter.unusedVariables false
set_option linter.unusedSimpArgs false
namespace Go.Proofs.YtdnioigcgggdbaaGreatDoor
open Go.RowKit
/-- what a store is: its region, how many sectors are taken, its records. -/
structure Sd where
  fr : Nat
  mn : Nat
  en : Nat
  ls : List (List UInt8)
structure Sv where
  A : Option Addr
  c : Nat
  q : List (Option Addr × Nat)
structure SOk (s : Sd) : Prop where
  m4 : s.fr + s.mn ≤ 4096
  em : s.en ≤ s.mn
  ll : s.ls.length ≤ s.en
  l6 : ∀ x ∈ s.ls, x.length ≤ 256
def stL (p g : Nat) (v : Sv) (s : Sd) : List Ent :=
  [blk p [.pointer (some ⟨g, 0, none⟩), .int .i64 s.fr, .int .i64 s.mn, .int .i64 s.en, .slice v.A s.ls.length v.c] 76,
   ownE 50 1 (.slice v.A s.ls.length v.c) s.ls.length (List.zipWith rh v.q s.ls), srsE v.q s.ls]
/-- a store at p, on the disk at g. -/
def stE (p g : Nat) (v : Sv) (s : Sd) : Ent := packE (stL p g v s) (SOk s)
section
variable {W : World} {L L' L0 L1 : List Ent} {R : Ending → World → Prop} {p g : Nat} {v : Sv} {s : Sd} {dv : Dv} {d : Dd}
theorem st_open (H : Holds W (stE p g v s :: L)) : SOk s ∧ Holds W (blk p [.pointer (some ⟨g, 0, none⟩), .int .i64 s.fr, .int .i64 s.mn, .int .i64 s.en, .slice v.A s.ls.length v.c] 76 ::
   ownE 50 1 (.slice v.A s.ls.length v.c) s.ls.length (List.zipWith rh v.q s.ls) :: srsE v.q s.ls :: L) := H.unpack
theorem st_shut (v : Sv) (s : Sd) (H : Holds W (blk p [.pointer (some ⟨g, 0, none⟩), .int .i64 s.fr, .int .i64 s.mn, .int .i64 s.en, .slice v.A s.ls.length v.c] 76 ::
   ownE 50 1 (.slice v.A s.ls.length v.c) s.ls.length (List.zipWith rh v.q s.ls) :: srsE v.q s.ls :: L)) (ho : SOk s) : Holds W (stE p g v s :: L) :=
  Holds.pack (l := stL p g v s) H ho (by intro e he; simp only [stL, List.mem_cons, List.not_mem_nil, or_false] at he; rcases he with rfl | rfl | rfl <;> rfl)
set_option maxRecDepth 100000 in
set_option maxHeartbeats 400000 in
theorem snone_k {r : List Value} (H : Holds W L) (hm : blk p (.pointer (some ⟨g, 0, none⟩) :: r) 76 ∈ L) (k : ∀ w', Holds w' L → R (.returned (.bool false)) w') :
    Calls Tryz.prog 49 #[.pointer (some ⟨p, 0, none⟩)] W R := by
  have HK := Lib.hid k; clear k
  go_enter Tryz.func49, Tryz.ntmps49
  go_wp2_with (first | ((with_reducible apply wpl_load H); (case hs => exact sc _ rfl); (case hw | hx => rfl); (case hm => (with_reducible repeat first | assumption)); (case hv => rfl)) )
  exact HK.out _ H
set_option maxRecDepth 100000 in
set_option maxHeartbeats 400000 in
theorem slen_k (H : Holds W L) (hm : Pull (stE p g v s) L L0) (k : ∀ w', Holds w' (stE p g v s :: L0) → R (.returned (.int .i64 (s.ls.length : Int))) w') :
    Calls Tryz.prog 25 #[.pointer (some ⟨p, 0, none⟩)] W R := by
  have H2 := st_open (H.pull hm); clear H; obtain ⟨ho, H⟩ := H2
  clear hm
  have HK := Lib.hid k; clear k
  have Ho := Lib.hid ho
  clear ho
  go_enter Tryz.func25, Tryz.ntmps25
  go_wp2_with (first | ((with_reducible apply wpl_load H); (case hs => exact sc _ rfl); (case hw | hx => rfl); (case hm => (with_reducible repeat first | exact mH)); (case hv => rfl)) | ((with_reducible apply snone_k H); (case hm => (with_reducible repeat first | exact mH)); clear H; (try clear W); intro W H))
  exact HK.out _ (st_shut _ _ H Ho.out)
set_option maxRecDepth 100000 in
set_option maxHeartbeats 400000 in
theorem sleft_st (H : Holds W L) (hm : Pull (stE p g v s) L L0) (k : ∀ w', Holds w' (stE p g v s :: L0) → R (.returned (.int .i64 ((s.mn : Int) - (s.en : Int)))) w') :
    Calls Tryz.prog 27 #[.pointer (some ⟨p, 0, none⟩)] W R := by
  have H2 := st_open (H.pull hm); clear H; obtain ⟨ho, H⟩ := H2
  clear hm
  have HK := Lib.hid k; clear k
  have Ho := Lib.hid ho
  have h1 := ho.m4
  have h2 := ho.em
  clear ho
  go_enter Tryz.func27, Tryz.ntmps27
  go_wp2_with (first | ((with_reducible apply snone_k H); (case hm => (with_reducible repeat first | exact mH)); clear H; (try clear W); intro W H))
  ((refine wp_region_J [] H (by kernel_rfl) ?_); clear H; (try clear W); intro W H; (apply anyJ_takeP 0 (oi := Oper.mk _ _ _ _ _ _) rfl); (case hs | hf => kernel_rfl); (case hr | hF => kernel_rfl); (case hQ => exact fun _ _ _ h => h); (case H => first | exact .inr H ); (case hy => first | (apply yields_pure rfl; intro w; first | (go_simp; with_reducible rfl) )); (try simp only [Act.put, sA, sB, sC]); (apply anyJ_takeP 1 (oi := Oper.mk _ _ _ _ _ _) rfl); (case hs | hf => kernel_rfl); (case hr | hF => kernel_rfl); (case hQ => exact fun _ _ _ h => h); (case H => first | exact .inr H ); (case hy => first | (apply yields_pure rfl; intro w; first | (go_simp; with_reducible rfl) )); (try simp only [Act.put, sA, sB, sC]); (apply anyJ_takeP 2 (oi := Oper.mk _ _ _ _ _ _) rfl); (case hs | hf => kernel_rfl); (case hr | hF => kernel_rfl); (case hQ => exact fun _ _ _ h => h); (case H => first | exact .inr H ); (case hy => first | (apply yields_pure rfl; intro w; first | (go_simp; with_reducible rfl) )); (try simp only [Act.put, sA, sB, sC]); (apply anyJ_takeP 4 (oi := Oper.mk _ _ _ _ _ _) rfl); (case hs | hf => kernel_rfl); (case hr | hF => kernel_rfl); (case hQ => exact fun _ _ _ h => h); (case H => first | exact .inr H ); (case hy => first | (apply yields_pure rfl; intro w; first | (go_simp; with_reducible rfl) )); (try simp only [Act.put, sA, sB, sC]); (apply anyJ_takeP 5 (oi := Oper.mk _ _ _ _ _ _) rfl); (case hs | hf => kernel_rfl); (case hr | hF => kernel_rfl); (case hQ => exact fun _ _ _ h => h); (case H => first | exact .inr H ); (case hy => first | (apply yields_pure rfl; intro w; first | (go_simp; with_reducible rfl) )); (try simp only [Act.put, sA, sB, sC]); (apply anyJ_takeP 6 (oi := Oper.mk _ _ _ _ _ _) rfl); (case hs | hf => kernel_rfl); (case hr | hF => kernel_rfl); (case hQ => exact fun _ _ _ h => h); (case H => first | exact .inr H ); (case hy => first | (apply yields_pure rfl; intro w; first | (go_simp; with_reducible rfl) )); (try simp only [Act.put, sA, sB, sC]); (apply anyJ_take 3 (oi := Oper.mk _ _ _ _ _ _) rfl); (case hs | hf => kernel_rfl); (case hr | hc | hF => kernel_rfl); (case hQ => exact fun _ _ _ h => h); (case H => first | exact H ); (case hy => (first | ((apply yields_load); (case hs => exact sc _ rfl); (case hw | hx => rfl); (case hm => (with_reducible repeat first | exact mH)); (case hv => rfl)) )); (try simp only [Act.put, sA, sB, sC]); (apply anyJ_take 7 (oi := Oper.mk _ _ _ _ _ _) rfl); (case hs | hf => kernel_rfl); (case hr | hc | hF => kernel_rfl); (case hQ => exact fun _ _ _ h => h); (case H => first | exact H ); (case hy => (first | ((apply yields_load); (case hs => exact sc _ rfl); (case hw | hx => rfl); (case hm => (with_reducible repeat first | exact mH)); (case hv => rfl)) )); (try simp only [Act.put, sA, sB, sC]); (apply anyJ_takeP 8 (oi := Oper.mk _ _ _ _ _ _) rfl); (case hs | hf => kernel_rfl); (case hr | hF => kernel_rfl); (case hQ => exact fun _ _ _ h => h); (case H => first | exact .inr H ); (case hy => first | (apply yields_pure rfl; intro w; first | (go_simp; with_reducible rfl) )); (try simp only [Act.put, sA, sB, sC]); (apply anyJ_takeP 9 (oi := Oper.mk _ _ _ _ _ _) rfl); (case hs | hf => kernel_rfl); (case hr | hF => kernel_rfl); (case hQ => exact fun _ _ _ h => h); (case H => first | exact .inr H ); (case hy => first | (apply yields_pure rfl; intro w; first | (go_simp; with_reducible rfl) )); (try simp only [Act.put, sA, sB, sC]); (apply anyJ_done (by kernel_rfl)))
  try rw [wrapI (x := (s.mn : Int) - (s.en : Int)) (by omega) (by omega)]
  go_wp2_with (first | go_big_skip )
  exact HK.out _ (st_shut _ _ H Ho.out)
set_option maxRecDepth 100000 in
set_option maxHeartbeats 400000 in
theorem ssync_k (H : Holds W L) (hm : Pull (stE p g v s) L L1) (hm2 : Pull (dkE g dv d) L1 L0) (k : ∀ v' w', Holds w' (dkE g v' d.sync.1 :: stE p g v s :: L0) → R (.returned (.int .i64 d.sync.2)) w') :
    Calls Tryz.prog 10 #[.pointer (some ⟨p, 0, none⟩)] W R := by
  replace H := (H.pull hm).perm (hm2.perm.cons _)
  have H2 := st_open H
  clear H hm hm2
  obtain ⟨ho, H⟩ := H2
  have HK := Lib.hid k; clear k
  have Ho := Lib.hid ho
  clear ho
  go_enter Tryz.func10, Tryz.ntmps10
  go_wp2_with (first | ((with_reducible apply wpl_load H); (case hs => exact sc _ rfl); (case hw | hx => rfl); (case hm => (with_reducible repeat first | exact mH)); (case hv => rfl)) | ((with_reducible apply snone_k H); (case hm => (with_reducible repeat first | exact mH)); clear H; (try clear W); intro W H) | ((with_reducible apply sync_k H); (case hm => (with_reducible repeat first | exact Pull.here | apply Pull.there)); clear H; (try clear W); intro dv2 W H))
  exact HK.out _ _ (Reord.use (st_shut (p := p) (g := g) v s (Reord.use H (by ((repeat (with_reducible apply Reord.cons; (case p => (with_reducible repeat first | exact Pull.here | apply Pull.there)))); repeat (with_reducible exact Reord.rest)))) Ho.out) (by ((repeat (with_reducible apply Reord.cons; (case p => (with_reducible repeat first | exact Pull.here | apply Pull.there)))); repeat (with_reducible exact Reord.rest))))
end
end Go.Proofs.YtdnioigcgggdbaaGreatDoor
namespace Go.Proofs.YtdnioigcgggdbaaGreatDoor
open Go.RowKit
section
variable {W : World} {L L' L0 L1 : List Ent} {R : Ending → World → Prop} {p g : Nat} {v : Sv} {s : Sd} {dv : Dv} {d : Dd}
set_option maxRecDepth 100000 in
set_option maxHeartbeats 400000 in
theorem sget_no (n : Int) (hn : n < 0 ∨ (s.ls.length : Int) ≤ n) (H : Holds W L) (hm : Pull (stE p g v s) L L0) (k : ∀ w', Holds w' (stE p g v s :: L0) → R (.returned (.tuple #[.slice none 0 0, .int .i64 1])) w') :
    Calls Tryz.prog 30 #[.pointer (some ⟨p, 0, none⟩), .int .i64 n] W R := by
  have H2 := st_open (H.pull hm); clear H; obtain ⟨ho, H⟩ := H2
  clear hm
  have HK := Lib.hid k; clear k
  have Ho := Lib.hid ho
  clear ho
  by_cases c1 : n < 0
  · clear hn
    go_enter Tryz.func30, Tryz.ntmps30
    go_wp2_with (first | ((with_reducible apply snone_k H); (case hm => (with_reducible repeat first | exact mH)); clear H; (try clear W); intro W H))
    exact HK.out _ (st_shut _ _ H Ho.out)
  · have d1 : decide (n < 0) = false := by simp; omega
    have c2 : (s.ls.length : Int) ≤ n := by omega
    clear hn
    go_enter Tryz.func30, Tryz.ntmps30
    go_wp2_with (first | ((with_reducible apply wpl_load H); (case hs => exact sc _ rfl); (case hw | hx => rfl); (case hm => (with_reducible repeat first | exact mH)); (case hv => rfl)) | ((with_reducible apply snone_k H); (case hm => (with_reducible repeat first | exact mH)); clear H; (try clear W); intro W H))
    exact HK.out _ (st_shut _ _ H Ho.out)
set_option maxRecDepth 100000 in
set_option maxHeartbeats 400000 in
theorem sget_k (n : Nat) (x : List UInt8) (hx : s.ls[n]? = some x) (H : Holds W L) (hm : Pull (stE p g v s) L L0) (k : ∀ A w', Holds w' (rowE 5 A x.length x.length (bvs x) :: stE p g v s :: L0) → R (.returned (.tuple #[.slice A x.length x.length, .int .i64 0])) w') :
    Calls Tryz.prog 30 #[.pointer (some ⟨p, 0, none⟩), .int .i64 n] W R := by
  have H2 := st_open (H.pull hm); clear H; obtain ⟨ho, H⟩ := H2
  clear hm
  have HK := Lib.hid k; clear k
  obtain ⟨A, c, q⟩ := v
  simp only at H
  have hq := srs_len (q := q) (ls := s.ls) H (by (with_reducible repeat first | exact mH | assumption | apply mT))
  have hn := (List.getElem?_eq_some_iff.1 hx).1
  obtain ⟨y, hy⟩ : ∃ y, q[n]? = some y := ⟨_, List.getElem?_eq_getElem (by omega)⟩
  have Hz := Lib.hid (zip_rhS hy hx)
  have HG : Hid (∀ L, srsE q s.ls ∈ L → Gives L fun w => Rd w 1 y.1 x.length y.2 (bvs x)) := Lib.hid fun L h => gives_srs h hy hx
  have hx6 : x.length ≤ 1000000 := by have := ho.l6 x (List.mem_of_getElem? hx); omega
  have Hx6 := Lib.hid hx6
  obtain ⟨b, rfl⟩ := own_some (H.all (ownE 50 1 (.slice A s.ls.length c) s.ls.length (List.zipWith rh q s.ls)) (by (with_reducible repeat first | exact mH | apply mT))) (by omega)
  have d1 : decide ((n : Int) < 0) = false := by simp
  have d2 : decide ((s.ls.length : Int) ≤ n) = false := by simp; omega
  have hni : (n : Int) < s.ls.length := by omega
  have Ho := Lib.hid ho
  clear ho hx hy hq hx6
  go_enter Tryz.func30, Tryz.ntmps30
  go_wp2_with (first | ((with_reducible apply wpl_load H); (case hs => exact sc _ rfl); (case hw | hx => rfl); (case hm => (with_reducible repeat first | exact mH | apply mT)); (case hv => rfl)) | ((with_reducible apply snone_k H); (case hm => (with_reducible repeat first | exact mH)); clear H; (try clear W); intro W H) | ((with_reducible apply wpl_loadVs0 (j := n) (v := .slice y.1 x.length y.2) H); (case hs => exact sc _ rfl); (case hw | hx => rfl); (case hm => (first | (apply gives_own; (case h => (with_reducible repeat first | exact mH | apply mT)); (case hn => rfl)) )); (case hj => omega); (case hv => exact Hz.out)) | ((with_reducible apply bclone_k (l := x)); (case H => exact H); (case G => (apply HG.out; (with_reducible repeat first | exact mH | apply mT))); (case hm => exact Hx6.out); clear H; (try clear W); intro A1 n1 c1 W hn1 H; subst hn1; have Hc1 := Lib.hid (own_le H.head).1) | ((with_reducible apply bclip_k); (case H => exact H); (case hm => exact Hc1.out); clear H; (try clear W); intro W H))
  have H2 := H.to_row.clip
  have H3 : Holds W (blk p [.pointer (some ⟨g, 0, none⟩), .int .i64 s.fr, .int .i64 s.mn, .int .i64 s.en, .slice (some ⟨b, 0, none⟩) s.ls.length c] 76 ::
   ownE 50 1 (.slice (some ⟨b, 0, none⟩) s.ls.length c) s.ls.length (List.zipWith rh q s.ls) :: srsE q s.ls :: rowE 5 A1 x.length x.length (bvs x) :: L0) := Reord.use H2 (by ((repeat (with_reducible apply Reord.cons; (case p => (with_reducible repeat first | exact Pull.here | apply Pull.there)))); repeat (with_reducible exact Reord.rest)))
  exact HK.out A1 _ (Reord.use (st_shut ⟨some ⟨b, 0, none⟩, c, q⟩ s H3 Ho.out) (by ((repeat (with_reducible apply Reord.cons; (case p => (with_reducible repeat first | exact Pull.here | apply Pull.there)))); repeat (with_reducible exact Reord.rest))))
end
end Go.Proofs.YtdnioigcgggdbaaGreatDoor
set_option linter.unusedVariables false
set_option linter.unusedSimpArgs false
namespace Go.Proofs.YtdnioigcgggdbaaGreatDoor
open Go.RowKit
def rsL (p g : Nat) (v : Sv) (s : Sd) : List Ent :=
  [blk p [.pointer (some ⟨g, 0, none⟩), .int .i64 s.fr, .int .i64 s.mn, .int .i64 s.en, .slice v.A s.ls.length v.c] 87,
   ownE 50 1 (.slice v.A s.ls.length v.c) s.ls.length (List.zipWith rh v.q s.ls), srsE v.q s.ls]
/-- the reference's store at p, on the disk at g. -/
def rsE (p g : Nat) (v : Sv) (s : Sd) : Ent := packE (rsL p g v s) (SOk s)
section
variable {W : World} {L L' L0 L1 : List Ent} {R : Ending → World → Prop} {p g : Nat} {v : Sv} {s : Sd} {rv : Rv} {d d' : Dd} {e : Int}
theorem rs_open (H : Holds W (rsE p g v s :: L)) : SOk s ∧ Holds W (blk p [.pointer (some ⟨g, 0, none⟩), .int .i64 s.fr, .int .i64 s.mn, .int .i64 s.en, .slice v.A s.ls.length v.c] 87 ::
   ownE 50 1 (.slice v.A s.ls.length v.c) s.ls.length (List.zipWith rh v.q s.ls) :: srsE v.q s.ls :: L) := H.unpack
theorem rs_shut (v : Sv) (s : Sd) (H : Holds W (blk p [.pointer (some ⟨g, 0, none⟩), .int .i64 s.fr, .int .i64 s.mn, .int .i64 s.en, .slice v.A s.ls.length v.c] 87 ::
   ownE 50 1 (.slice v.A s.ls.length v.c) s.ls.length (List.zipWith rh v.q s.ls) :: srsE v.q s.ls :: L)) (ho : SOk s) : Holds W (rsE p g v s :: L) :=
  Holds.pack (l := rsL p g v s) H ho (by intro e he; simp only [rsL, List.mem_cons, List.not_mem_nil, or_false] at he; rcases he with rfl | rfl | rfl <;> rfl)
set_option maxRecDepth 100000 in
set_option maxHeartbeats 400000 in
theorem rslen_v (n : Int) (H : Holds W L) (hm : Pull (rsE p g v s) L L0) (hn : (s.ls.length : Int) = n) (k : ∀ w', Holds w' (rsE p g v s :: L0) → R (.returned (.int .i64 n)) w') :
    Calls Tryz.prog 26 #[.pointer (some ⟨p, 0, none⟩)] W R := by
  subst hn
  have H2 := rs_open (H.pull hm); clear H; obtain ⟨ho, H⟩ := H2
  clear hm
  have HK := Lib.hid k; clear k
  have Ho := Lib.hid ho
  clear ho
  go_enter Tryz.func26, Tryz.ntmps26
  go_wp2_with (first | ((with_reducible apply wpl_load H); (case hs => exact sc _ rfl); (case hw | hx => rfl); (case hm => (with_reducible repeat first | exact mH)); (case hv => rfl)) )
  exact HK.out _ (rs_shut _ _ H Ho.out)
set_option maxRecDepth 100000 in
set_option maxHeartbeats 400000 in
theorem rsleft_v (n : Int) (H : Holds W L) (hm : Pull (rsE p g v s) L L0) (hn : (s.mn : Int) - (s.en : Int) = n) (k : ∀ w', Holds w' (rsE p g v s :: L0) → R (.returned (.int .i64 n)) w') :
    Calls Tryz.prog 28 #[.pointer (some ⟨p, 0, none⟩)] W R := by
  subst hn
  have H2 := rs_open (H.pull hm); clear H; obtain ⟨ho, H⟩ := H2
  clear hm
  have HK := Lib.hid k; clear k
  have Ho := Lib.hid ho
  have h1 := ho.m4
  have h2 := ho.em
  have e1 := Lib.hid (wrapI (x := (s.mn : Int) - (s.en : Int)) (by omega) (by omega))
  clear ho
  go_enter Tryz.func28, Tryz.ntmps28
  go_wp2_with (first | go_big_skip )
  ((refine wp_region_J [] H (by kernel_rfl) ?_); clear H; (try clear W); intro W H; (apply anyJ_takeP 0 (oi := Oper.mk _ _ _ _ _ _) rfl); (case hs | hf => kernel_rfl); (case hr | hF => kernel_rfl); (case hQ => exact fun _ _ _ h => h); (case H => first | exact .inr H ); (case hy => first | (apply yields_pure rfl; intro w; first | (go_simp; with_reducible rfl) )); (try simp only [Act.put, sA, sB, sC]); (apply anyJ_takeP 1 (oi := Oper.mk _ _ _ _ _ _) rfl); (case hs | hf => kernel_rfl); (case hr | hF => kernel_rfl); (case hQ => exact fun _ _ _ h => h); (case H => first | exact .inr H ); (case hy => first | (apply yields_pure rfl; intro w; first | (go_simp; with_reducible rfl) )); (try simp only [Act.put, sA, sB, sC]); (apply anyJ_takeP 2 (oi := Oper.mk _ _ _ _ _ _) rfl); (case hs | hf => kernel_rfl); (case hr | hF => kernel_rfl); (case hQ => exact fun _ _ _ h => h); (case H => first | exact .inr H ); (case hy => first | (apply yields_pure rfl; intro w; first | (go_simp; with_reducible rfl) )); (try simp only [Act.put, sA, sB, sC]); (apply anyJ_takeP 4 (oi := Oper.mk _ _ _ _ _ _) rfl); (case hs | hf => kernel_rfl); (case hr | hF => kernel_rfl); (case hQ => exact fun _ _ _ h => h); (case H => first | exact .inr H ); (case hy => first | (apply yields_pure rfl; intro w; first | (go_simp; with_reducible rfl) )); (try simp only [Act.put, sA, sB, sC]); (apply anyJ_takeP 5 (oi := Oper.mk _ _ _ _ _ _) rfl); (case hs | hf => kernel_rfl); (case hr | hF => kernel_rfl); (case hQ => exact fun _ _ _ h => h); (case H => first | exact .inr H ); (case hy => first | (apply yields_pure rfl; intro w; first | (go_simp; with_reducible rfl) )); (try simp only [Act.put, sA, sB, sC]); (apply anyJ_takeP 6 (oi := Oper.mk _ _ _ _ _ _) rfl); (case hs | hf => kernel_rfl); (case hr | hF => kernel_rfl); (case hQ => exact fun _ _ _ h => h); (case H => first | exact .inr H ); (case hy => first | (apply yields_pure rfl; intro w; first | (go_simp; with_reducible rfl) )); (try simp only [Act.put, sA, sB, sC]); (apply anyJ_take 3 (oi := Oper.mk _ _ _ _ _ _) rfl); (case hs | hf => kernel_rfl); (case hr | hc | hF => kernel_rfl); (case hQ => exact fun _ _ _ h => h); (case H => first | exact H ); (case hy => (first | ((apply yields_load); (case hs => exact sc _ rfl); (case hw | hx => rfl); (case hm => (with_reducible repeat first | exact mH)); (case hv => rfl)) )); (try simp only [Act.put, sA, sB, sC]); (apply anyJ_take 7 (oi := Oper.mk _ _ _ _ _ _) rfl); (case hs | hf => kernel_rfl); (case hr | hc | hF => kernel_rfl); (case hQ => exact fun _ _ _ h => h); (case H => first | exact H ); (case hy => (first | ((apply yields_load); (case hs => exact sc _ rfl); (case hw | hx => rfl); (case hm => (with_reducible repeat first | exact mH)); (case hv => rfl)) )); (try simp only [Act.put, sA, sB, sC]); (apply anyJ_takeP 8 (oi := Oper.mk _ _ _ _ _ _) rfl); (case hs | hf => kernel_rfl); (case hr | hF => kernel_rfl); (case hQ => exact fun _ _ _ h => h); (case H => first | exact .inr H ); (case hy => first | (apply yields_pure rfl; intro w; first | (go_simp; with_reducible rfl) )); (try simp only [Act.put, sA, sB, sC]); (apply anyJ_takeP 9 (oi := Oper.mk _ _ _ _ _ _) rfl); (case hs | hf => kernel_rfl); (case hr | hF => kernel_rfl); (case hQ => exact fun _ _ _ h => h); (case H => first | exact .inr H ); (case hy => first | (apply yields_pure rfl; intro w; first | (go_simp; with_reducible rfl) )); (try simp only [Act.put, sA, sB, sC]); (apply anyJ_done (by kernel_rfl)))
  try rw [e1.out]
  go_wp2_with (first | go_big_skip )
  exact HK.out _ (rs_shut _ _ H Ho.out)
set_option maxRecDepth 100000 in
set_option maxHeartbeats 400000 in
theorem rssync_c (hz : d.sync = (d', e)) (H : Holds W L) (hm : Pull (rsE p g v s) L L1) (hm2 : Pull (rdE g rv d) L1 L0) (k : ∀ v' w', Holds w' (rdE g v' d' :: rsE p g v s :: L0) → R (.returned (.int .i64 e)) w') :
    Calls Tryz.prog 11 #[.pointer (some ⟨p, 0, none⟩)] W R := by
  replace H := (H.pull hm).perm (hm2.perm.cons _)
  have H2 := rs_open H
  clear H hm hm2
  obtain ⟨ho, H⟩ := H2
  have HK := Lib.hid k; clear k
  have Ho := Lib.hid ho
  have Hz := Lib.hid hz
  clear ho hz
  go_enter Tryz.func11, Tryz.ntmps11
  go_wp2_with (first | ((with_reducible apply wpl_load H); (case hs => exact sc _ rfl); (case hw | hx => rfl); (case hm => (with_reducible repeat first | exact mH)); (case hv => rfl)) | ((with_reducible apply rsync_c Hz.out); (case H => exact H); (case hm => (with_reducible repeat first | exact Pull.here | apply Pull.there)); clear H; (try clear W); intro dv2 W H))
  exact HK.out _ _ (Reord.use (rs_shut (p := p) (g := g) v s (Reord.use H (by ((repeat (with_reducible apply Reord.cons; (case p => (with_reducible repeat first | exact Pull.here | apply Pull.there)))); repeat (first | with_reducible exact Reord.rest | with_reducible apply Reord.drop)))) Ho.out) (by ((repeat (with_reducible apply Reord.cons; (case p => (with_reducible repeat first | exact Pull.here | apply Pull.there)))); repeat (first | with_reducible exact Reord.rest | with_reducible apply Reord.drop))))
end
end Go.Proofs.YtdnioigcgggdbaaGreatDoor
