/-
  Contracts over entries: nums.Put, nums.Get, Concat, Clone, Clip at bytes; frames.sectors, frames.Put.
-/
import Derived.Test.YtdnioigcgggdbaaFr5
import Derived.Test.YtdnioigcgggdbaaSl
import Derived.Test.YtdnioigcgggdbaaBlkF
set_option linter.unusedVariables false
set_option linter.unusedSimpArgs false
namespace Go.Proofs.Ytdnioigcgggdbaa
open Go.RowKit

section
variable {W : World} {L L' L0 : List Ent} {R : Ending → World → Prop} {A : Option Addr} {m c : Nat} {l : List UInt8}
theorem own_gives_len {e : TypeId} {v : Value} {n : Nat} {l : List UInt8} {w : World} {base : Nat} (h : w.ownsRow base e 1 v n (bvs l)) : n = l.length := by
  have := h.1
  simpa [bvs] using this.symm
theorem nput_k {x k : Nat} {X K : Int} (G : Gives L fun w => Rd w 1 A m c (bvs l)) (hX : X = (x : Int)) (hK : K = (k : Int)) (hk : k ≤ 8) (hm : m ≤ 1000000) (H : Holds W L)
    (kk : ∀ A' m' c' w', m' = m + k → Holds w' (ownE 5 1 (.slice A' m' c') m' (bvs (l ++ be k x)) :: L) → R (.returned (.slice A' m' c')) w') :
    Calls Try.prog 50 #[.slice A m c, .int .u64 X, .int .i64 K] W R := by
  subst hX hK
  have hl := (G W H).blen
  refine (put_any A m c l x k (k : Int) hk (by omega) (by omega) W (G W H)).mono ?_
  rintro e w' ⟨A', m', c', rfl, ho, hx⟩
  have hm' := own_gives_len ho
  rw [List.length_append, be_length, hl] at hm'
  exact kk A' m' c' w' hm' (H.new_own hx ho)
theorem nget_k {K : Int} (G : Gives L fun w => Rd w 1 A m c (bvs l)) (H : Holds W L) (k : ∀ w', Holds w' L → R (.returned (.tuple #[.int .u64 ((getR l K).1 : Int), .int .i64 (getR l K).2])) w') :
    Calls Try.prog 73 #[.slice A m c, .int .i64 K] W R := by
  refine (get_any A m c l K W (G W H)).mono ?_
  rintro e w' ⟨rfl, rfl⟩
  exact k _ H
theorem concat_k (ps : List Piece) (G : Gives L fun w => Rd w 1 A m c (ps.map Piece.v)) (hps : ∀ p ∈ ps, Gives L fun w => Rd w 1 p.a p.n p.c (bvs p.l)) (hs : (pieces ps).length ≤ 70368744177664) (H : Holds W L)
    (k : ∀ A' m' c' w', m' = (pieces ps).length → Holds w' (ownE 5 1 (.slice A' m' c') m' (bvs (pieces ps)) :: L) → R (.returned (.slice A' m' c')) w') :
    Calls Try.prog 53 #[.slice A m c] W R := by
  refine (concat_any A m c ps W (G W H) (fun p hp => hps p hp W H) hs).mono ?_
  rintro e w' ⟨A', m', c', rfl, ho, hx⟩
  exact k A' m' c' w' (own_gives_len ho) (H.new_own hx ho)
theorem bclone_k (G : Gives L fun w => Rd w 1 A m c (bvs l)) (hm : m ≤ 1000000) (H : Holds W L) (k : ∀ A' m' c' w', m' = m → Holds w' (ownE 5 1 (.slice A' m' c') m' (bvs l) :: L) → R (.returned (.slice A' m' c')) w') :
    Calls Try.prog 29 #[.slice A m c] W R := by
  have hl := (G W H).blen
  refine (clone_any A m c l (by omega) W (G W H)).mono ?_
  rintro e w' ⟨A', m', c', rfl, ho, hx⟩
  exact k A' m' c' w' ((own_gives_len ho).trans hl) (H.new_own hx ho)
theorem bclip_k (hm : m ≤ c) (H : Holds W L) (k : ∀ w', Holds w' L → R (.returned (.slice A m m)) w') : Calls Try.prog 28 #[.slice A m c] W R := by
  refine (clip_any A m c hm W).mono ?_
  rintro e w' ⟨rfl, rfl⟩
  exact k _ H
theorem quo64 (n : Nat) : (18 + (n : Int) + 64 - 1) / 64 = ((secs n : Nat) : Int) := by
  unfold secs
  omega
set_option maxRecDepth 100000 in
set_option maxHeartbeats 1000000 in
theorem sectors_k {n : Nat} {N : Int} (hN : N = (n : Int)) (hn : n ≤ 1000000) (H : Holds W L) (k : ∀ w', Holds w' L → R (.returned (.int .i64 (secs n : Nat))) w') :
    Calls Try.prog 49 #[.int .i64 N] W R := by
  have HK := Lib.hid k; clear k
  subst hN
  go_enter Try.func49, Try.ntmps49
  go_wp2_with (first | go_big_skip | ((with_reducible refine wpl_absorb H ?_); clear H; (first  | generalize W.heap.size = q0); (try clear W); intro W H) | ((with_reducible refine wpl_drew H ?_); clear H; (try clear W); intro W H) | ((with_reducible refine wpl_drewN H ?_); clear H; (try clear W); intro W H) | ((with_reducible apply wpl_load H); (case hs => exact sc _ rfl); (case hw => rfl); (case hx => rfl); (case hm => (repeat (first | with_reducible exact mH | with_reducible assumption | with_reducible apply mT))); (case hv => rfl)) | ((with_reducible apply wpl_loadA H); (case hs => exact ag _ _ rfl); (case hw => rfl); (case hx => rfl); (case hm => (repeat (first | with_reducible exact mH | with_reducible assumption | with_reducible apply mT))); (case hv => rfl); (case hl => rfl); (try simp only [List.drop_zero, List.drop_succ_cons, List.take_succ_cons, List.take_zero, List.take_nil])) | ((with_reducible apply wpl_loadB H); (case hs => exact sc _ rfl); (case hw => rfl); (case hx => rfl); (case hm => (first | assumption | (apply gives_own; (case h => (repeat (first | with_reducible exact mH | with_reducible assumption | with_reducible apply mT))); (case hn => rfl)) | (apply gives_blk; (case h => (repeat (first | with_reducible exact mH | with_reducible assumption | with_reducible apply mT))); (case hn => rfl); (case hl => omega)) | (repeat (first | assumption | with_reducible apply Gives.cons)))); (case hj => first | assumption | omega)) | ((with_reducible apply wpl_loadB0 H); (case hs => exact sc _ rfl); (case hw => rfl); (case hx => rfl); (case hm => (first | assumption | (apply gives_own; (case h => (repeat (first | with_reducible exact mH | with_reducible assumption | with_reducible apply mT))); (case hn => rfl)) | (apply gives_blk; (case h => (repeat (first | with_reducible exact mH | with_reducible assumption | with_reducible apply mT))); (case hn => rfl); (case hl => omega)) | (repeat (first | assumption | with_reducible apply Gives.cons)))); (case hj => first | assumption | omega)) | ((with_reducible apply wpl_storeO H); (case hs => exact sz_sc _ rfl); (case hw => rfl); (case hx => rfl); (case hy => (first | exact (rfl : _ = Value.int _ _) | exact (rfl : _ = Value.bool _) | exact (rfl : _ = Value.slice _ _ _) | exact (rfl : _ = Value.pointer _) | exact (rfl : _ = Value.string _) | rfl)); (case h1 => rfl); (case hm => (repeat (first | with_reducible exact Upd.here | with_reducible assumption | with_reducible apply Upd.there))); (case hj => first | assumption | omega); clear H; (try clear W); intro W H) | ((with_reducible apply wpl_app H); (case ht => (first | exact Try.underlying22 | exact Try.underlying25 | exact Try.underlying28 | exact Try.underlying37 | exact Try.underlying38 | exact Try.underlying42 | exact Try.underlying69 | exact Try.underlying72 | exact Try.underlying119 | exact Try.underlying122 | exact Try.underlying141 | exact Try.underlying171)); (case hinfo => (first | exact inf_3 | exact inf_4 | exact inf_5 | exact inf_22 | exact inf_23 | exact inf_29 | exact inf_86 | exact inf_90 | exact inf_174)); (case hw => rfl); (case hs => rfl); (case hx => rfl); (case hm => (repeat (first | with_reducible exact Pull.here | with_reducible apply Pull.there))); (case hzs => rfl); (case hsz => decide); (case hr => (first | assumption | (apply gives_own; (case h => (repeat (first | with_reducible exact mH | with_reducible assumption | with_reducible apply mT))); (case hn => rfl)) | (apply gives_blk; (case h => (repeat (first | with_reducible exact mH | with_reducible assumption | with_reducible apply mT))); (case hn => rfl); (case hl => omega)) | (repeat (first | assumption | with_reducible apply Gives.cons)))); (case h1 => first | exact bvs_oneCell _ | (intro u hu; obtain rfl := List.mem_singleton.1 hu; rfl)); (case h63 => (simp only [maxLen]; omega)); (case hbytes => omega); clear H; (try clear W); intro A1 n1 c1 W hn H hle1 htop1; obtain rfl := hn.out; clear hn) | ((with_reducible apply wpl_store1 H); (case hs => exact sz_sc _ rfl); (case hw => rfl); (case hx => rfl); (case hy => (first | exact (rfl : _ = Value.int _ _) | exact (rfl : _ = Value.bool _) | exact (rfl : _ = Value.slice _ _ _) | exact (rfl : _ = Value.pointer _) | exact (rfl : _ = Value.string _) | rfl)); (case hm => (repeat (first | with_reducible exact Upd.here | with_reducible assumption | with_reducible apply Upd.there))); (case h1 => rfl); (case hk => exact Nat.le_of_ble_eq_true rfl); clear H; (try clear W); intro W H; simp only [setL, List.set_cons_zero, List.set_cons_succ] at H) | ((with_reducible apply wpl_store H); (case hw => rfl); (case hx => rfl); (case hy => rfl); (case hm => (repeat (first | with_reducible exact Upd.here | with_reducible assumption | with_reducible apply Upd.there))); (case hs => exact sz_ag _ _ rfl); (case h1 => rfl); (case hk => exact Nat.le_of_ble_eq_true rfl); clear H; (try clear W); intro W H; first | rw [setL_whole rfl] at H | simp only [setL, List.set_cons_zero, List.set_cons_succ] at H))
  have := HK.out _ H
  rw [← quo64 n] at this
  exact this
theorem gives_nilB {L : List Ent} : Gives L fun w => Rd w 1 none 0 0 (bvs []) := fun w H => ⟨Nat.le_refl _, by simp [maxLen], rfl, fun _ => rfl, fun h => absurd h (by decide)⟩
theorem concat4_k {A1 A2 A3 A4 : Option Addr} {n1 n2 n3 n4 c1 c2 c3 c4 : Nat} {l1 l2 l3 l4 : List UInt8} (G : Gives L fun w => Rd w 1 A 4 c [.slice A1 n1 c1, .slice A2 n2 c2, .slice A3 n3 c3, .slice A4 n4 c4])
    (g1 : Gives L fun w => Rd w 1 A1 n1 c1 (bvs l1)) (g2 : Gives L fun w => Rd w 1 A2 n2 c2 (bvs l2)) (g3 : Gives L fun w => Rd w 1 A3 n3 c3 (bvs l3)) (g4 : Gives L fun w => Rd w 1 A4 n4 c4 (bvs l4)) (hs : n1 + n2 + n3 + n4 ≤ 1000000) (H : Holds W L)
    (k : ∀ A' m' c' w', m' = n1 + n2 + n3 + n4 → Holds w' (ownE 5 1 (.slice A' m' c') m' (bvs (l1 ++ (l2 ++ (l3 ++ l4)))) :: L) → R (.returned (.slice A' m' c')) w') :
    Calls Try.prog 53 #[.slice A 4 c] W R := by
  have e : pieces [⟨A1, n1, c1, l1⟩, ⟨A2, n2, c2, l2⟩, ⟨A3, n3, c3, l3⟩, ⟨A4, n4, c4, l4⟩] = l1 ++ (l2 ++ (l3 ++ l4)) := by simp [pieces]
  have h1 := (g1 W H).blen
  have h2 := (g2 W H).blen
  have h3 := (g3 W H).blen
  have h4 := (g4 W H).blen
  have hl : (l1 ++ (l2 ++ (l3 ++ l4))).length = n1 + n2 + n3 + n4 := by simp only [List.length_append]; omega
  refine concat_k [⟨A1, n1, c1, l1⟩, ⟨A2, n2, c2, l2⟩, ⟨A3, n3, c3, l3⟩, ⟨A4, n4, c4, l4⟩] G ?_ (by rw [e, hl]; omega) H ?_
  · intro p hp
    simp only [List.mem_cons, List.not_mem_nil, or_false] at hp
    rcases hp with rfl | rfl | rfl | rfl
    · exact g1
    · exact g2
    · exact g3
    · exact g4
  · rw [e, hl]
    exact k
end
end Go.Proofs.Ytdnioigcgggdbaa
