/-
  disks: a slice of slices of bytes as one entry; all and TwinByteLists with it.
-/
import Derived.Test.YtaegjjaabeakoaaDkD
import Derived.Test.YtaegjjaabeakoaaTwin
set_option linter.unusedVariables false
set_option linter.unusedSimpArgs false
namespace Go.Proofs.Ytaegjjaabeakoaa
open Go.RowKit

def rv (x : Option Addr × Nat) (s : List UInt8) : Value := .slice x.1 s.length x.2
def rowE (x : Option Addr × Nat) (s : List UInt8) : Ent := ownE 5 1 (rv x s) s.length (bvs s)
def rowsE (q : List (Option Addr × Nat)) (ls : List (List UInt8)) : Ent := packE (List.zipWith rowE q ls) (q.length = ls.length)
/-- a slice of slices of bytes, all of it the call's own. -/
def lsE (A : Option Addr) (n c : Nat) (q : List (Option Addr × Nat)) (ls : List (List UInt8)) : Ent :=
  packE [ownE 22 1 (.slice A n c) n (List.zipWith rv q ls), rowsE q ls] (ls.length = n)
theorem rowE_own (x : Option Addr × Nat) (s : List UInt8) : (rowE x s).own = true := rfl
theorem zip_own {q : List (Option Addr × Nat)} {ls : List (List UInt8)} : ∀ e ∈ List.zipWith rowE q ls, e.own = true := by
  intro e he
  obtain ⟨j, hj⟩ := List.mem_iff_getElem?.1 he
  rw [List.getElem?_zipWith] at hj
  split at hj
  · cases hj; rfl
  · cases hj
theorem zip_set {α β γ : Type} (f : α → β → γ) {q : List α} {ls : List β} {j : Nat} {x : α} {s' : β} (hq : q[j]? = some x) : List.zipWith f q (ls.set j s') = (List.zipWith f q ls).set j (f x s') := by
  apply List.ext_getElem?
  intro i
  rw [List.getElem?_zipWith, List.getElem?_set, List.getElem?_set, List.getElem?_zipWith]
  by_cases h : j = i
  · subst h
    rw [if_pos rfl, if_pos rfl, hq]
    have hqlt := (List.getElem?_eq_some_iff.1 hq).1
    by_cases hl : j < ls.length
    · rw [if_pos hl, if_pos (by rw [List.length_zipWith]; omega)]
    · rw [if_neg hl, if_neg (by rw [List.length_zipWith]; omega)]
  · rw [if_neg h, if_neg h]
section
variable {W : World} {L L' L0 : List Ent} {R : Ending → World → Prop} {q : List (Option Addr × Nat)} {ls : List (List UInt8)}
theorem rows_new (H : Holds W L) : Holds W (rowsE [] [] :: L) := Holds.pack (l := []) H rfl (by intro e he; cases he)
theorem rows_add {x : Option Addr × Nat} {s : List UInt8} (H : Holds W (rowE x s :: rowsE q ls :: L)) : Holds W (rowsE (q ++ [x]) (ls ++ [s]) :: L) := by
  have H1 := H.perm (List.Perm.swap _ _ _)
  obtain ⟨hl, H2⟩ := H1.unpack
  refine Holds.pack ?_ (by rw [List.length_append, List.length_append, hl]; rfl) zip_own
  rw [List.zipWith_append hl]
  refine H2.perm ?_
  rw [List.append_assoc]
  exact .refl _
theorem rows_len (H : Holds W L) (h : rowsE q ls ∈ L) : q.length = ls.length := (H.all _ h).1
theorem ls_shut {A : Option Addr} {n c : Nat} (H : Holds W (ownE 22 1 (.slice A n c) n (List.zipWith rv q ls) :: rowsE q ls :: L)) (hn : ls.length = n) : Holds W (lsE A n c q ls :: L) :=
  Holds.pack (l := [_, _]) H hn (by intro e he; simp only [List.mem_cons, List.not_mem_nil, or_false] at he; rcases he with rfl | rfl <;> rfl)
theorem ls_open {A : Option Addr} {n c : Nat} (H : Holds W (lsE A n c q ls :: L)) : ls.length = n ∧ Holds W (ownE 22 1 (.slice A n c) n (List.zipWith rv q ls) :: rowsE q ls :: L) := H.unpack
theorem says_row {j : Nat} {x : Option Addr × Nat} {s : List UInt8} (h : (rowsE q ls).says W) (hq : q[j]? = some x) (hj : ls[j]? = some s) : Rd W 1 x.1 s.length x.2 (bvs s) :=
  Rd.of_own (h.2.all (rowE x s) (List.mem_of_getElem? (i := j) (by rw [List.getElem?_zipWith, hq, hj])))
theorem gives_row {j : Nat} {x : Option Addr × Nat} {s : List UInt8} (h : rowsE q ls ∈ L) (hq : q[j]? = some x) (hj : ls[j]? = some s) : Gives L fun w => Rd w 1 x.1 s.length x.2 (bvs s) :=
  fun w H => says_row (H.all _ h) hq hj
theorem rdL_ls {A : Option Addr} {n c : Nat} (H : Holds W L) (h : lsE A n c q ls ∈ L) : RdL L A n c (List.zipWith rv q ls) ls := by
  have h0 := H.all _ h
  have hql : q.length = ls.length := (h0.2.all _ (.tail _ (.head _))).1
  refine ⟨fun w H => Rd.of_own ((H.all _ h).2.all _ (.head _)), h0.1, fun j l hj => ?_⟩
  have hlt := (List.getElem?_eq_some_iff.1 hj).1
  have hq : q[j]? = some q[j] := List.getElem?_eq_getElem (by omega)
  refine ⟨q[j].1, l.length, q[j].2, ?_, fun w H => says_row ((H.all _ h).2.all _ (.tail _ (.head _))) hq hj⟩
  rw [List.getElem?_zipWith, hq, hj]
  rfl
theorem rows_open {j : Nat} {x : Option Addr × Nat} {s : List UInt8} (H : Holds W (rowsE q ls :: L)) (hq : q[j]? = some x) (hj : ls[j]? = some s) :
    ∃ R0, Holds W (rowE x s :: R0 :: L) ∧ ∀ W' L' s', s'.length = s.length → Holds W' (rowE x s' :: R0 :: L') → Holds W' (rowsE q (ls.set j s') :: L') := by
  obtain ⟨hl, H2⟩ := H.unpack
  have hjl := (List.getElem?_eq_some_iff.1 hj).1
  have hjz : j < (List.zipWith rowE q ls).length := by rw [List.length_zipWith]; omega
  have e : ∀ s', List.zipWith rowE q (ls.set j s') = (List.zipWith rowE q ls).take j ++ rowE x s' :: (List.zipWith rowE q ls).drop (j + 1) := fun s' => by rw [zip_set rowE hq, List.set_eq_take_append_cons_drop, if_pos hjz]
  have e0 : List.zipWith rowE q ls = (List.zipWith rowE q ls).take j ++ rowE x s :: (List.zipWith rowE q ls).drop (j + 1) := by
    rw [← e s]
    congr 1
    apply List.ext_getElem?
    intro i
    rw [List.getElem?_set]
    split
    · rename_i h; subst h; first | rw [if_pos hjl, hj] | rw [hj]
    · rfl
  have ho : ∀ e ∈ (List.zipWith rowE q ls).take j ++ (List.zipWith rowE q ls).drop (j + 1), e.own = true := fun e he => zip_own e (by
    rcases List.mem_append.1 he with h | h
    · exact List.mem_of_mem_take h
    · exact List.mem_of_mem_drop h)
  refine ⟨packE ((List.zipWith rowE q ls).take j ++ (List.zipWith rowE q ls).drop (j + 1)) True, ?_, fun W' L' s' hs H' => ?_⟩
  · rw [e0] at H2
    have H3 := H2.perm (L' := ((List.zipWith rowE q ls).take j ++ (List.zipWith rowE q ls).drop (j + 1)) ++ (rowE x s :: L)) (by
      rw [List.append_assoc, List.append_assoc, List.cons_append]
      exact List.Perm.append_left _ List.perm_middle.symm)
    have H4 := H3.pack (p := True) trivial ho
    exact H4.perm (List.Perm.swap _ _ _)
  · have H3 := H'.perm (List.Perm.swap _ _ _)
    obtain ⟨-, H4⟩ := H3.unpack
    refine Holds.pack ?_ (by rw [List.length_set]; exact hl) zip_own
    rw [e s']
    refine H4.perm ?_
    rw [List.append_assoc, List.append_assoc, List.cons_append]
    exact List.Perm.append_left _ List.perm_middle
theorem dk_ok {g : Nat} {v : Dv} {d : Dd} (H : Holds W L) (h : dkE g v d ∈ L) : DOk v d := (H.all _ h).1
theorem rowE_64 {b : Nat} {s : List UInt8} (h : s.length = 64) : ownE 5 1 (.slice (some ⟨b, 0, none⟩) 64 64) 64 (bvs s) = rowE (some ⟨b, 0, none⟩, 64) s := by unfold rowE rv; rw [h]
theorem five {l : List (List UInt8)} (h : l.length = 5) : ∃ a b c d e, l = [a, b, c, d, e] := by
  match l, h with
  | [a, b, c, d, e], _ => exact ⟨a, b, c, d, e, rfl⟩
/-- what stands in each sector, of five. -/
theorem all_l {g : Nat} {v : Dv} {d : Dd} (h5 : d.su.length = 5) (H : Holds W L) (hm : Pull (dkE g v d) L L0) (k : ∀ A c q w', Holds w' (lsE A 5 c q d.no :: dkE g v d :: L0) → R (.returned (.slice A 5 c)) w') :
    Calls Try.prog 20 #[.pointer (some ⟨g, 0, none⟩)] W R := by
  have ho := dk_ok H hm.mem
  have hn : d.no.length = 5 := by rw [ho.nn]; exact h5
  have hl := ho.nl
  obtain ⟨s0, s1, s2, s3, s4, e⟩ := five hn
  refine all_k e h5 H hm fun A c b0 b1 b2 b3 b4 w' H => k A c [(some ⟨b0, 0, none⟩, 64), (some ⟨b1, 0, none⟩, 64), (some ⟨b2, 0, none⟩, 64), (some ⟨b3, 0, none⟩, 64), (some ⟨b4, 0, none⟩, 64)] w' ?_
  rw [e] at hl
  have l0 := hl s0 (by simp)
  have l1 := hl s1 (by simp)
  have l2 := hl s2 (by simp)
  have l3 := hl s3 (by simp)
  have l4 := hl s4 (by simp)
  rw [rowE_64 l0, rowE_64 l1, rowE_64 l2, rowE_64 l3, rowE_64 l4] at H
  have H2 := H.perm (L' := [rowE (some ⟨b0, 0, none⟩, 64) s0, rowE (some ⟨b1, 0, none⟩, 64) s1, rowE (some ⟨b2, 0, none⟩, 64) s2, rowE (some ⟨b3, 0, none⟩, 64) s3, rowE (some ⟨b4, 0, none⟩, 64) s4] ++ (ownE 22 1 (.slice A 5 c) 5 [.slice (some ⟨b0, 0, none⟩) 64 64, .slice (some ⟨b1, 0, none⟩) 64 64, .slice (some ⟨b2, 0, none⟩) 64 64, .slice (some ⟨b3, 0, none⟩) 64 64, .slice (some ⟨b4, 0, none⟩) 64 64] :: dkE g v d :: L0)) (List.perm_middle (l₁ := [_, _, _, _, _])).symm
  have H3 : Holds w' (rowsE [(some ⟨b0, 0, none⟩, 64), (some ⟨b1, 0, none⟩, 64), (some ⟨b2, 0, none⟩, 64), (some ⟨b3, 0, none⟩, 64), (some ⟨b4, 0, none⟩, 64)] [s0, s1, s2, s3, s4] :: _) := Holds.pack (l := [_, _, _, _, _]) H2 rfl (by intro e he; simp only [List.mem_cons, List.not_mem_nil, or_false] at he; rcases he with rfl | rfl | rfl | rfl | rfl <;> rfl)
  rw [e]
  refine ls_shut ?_ rfl
  have H4 := H3.perm (List.Perm.swap _ _ _)
  simp only [List.zipWith_cons_cons, List.zipWith_nil_left, rv, l0, l1, l2, l3, l4]
  exact H4
set_option maxRecDepth 100000 in
set_option maxHeartbeats 2000000 in
theorem twinL_k {A : Option Addr} {n c : Nat} {hs : List Value} (h1 : RdL L A n c hs ls) (hn : n ≤ 1000000) (h64 : ∀ s ∈ ls, s.length ≤ 1000000) (H : Holds W L) (k : ∀ A c q w', Holds w' (lsE A n c q ls :: L) → R (.returned (.slice A n c)) w') :
    Calls Try.prog 25 #[.slice A n c] W R := by
  have hle := (h1.head W H).le
  have htop := (h1.head W H).top
  unfold maxLen at htop
  replace H := rows_new (H.add_nil 22 1)
  have HK := Lib.hid k; clear k
  have H64 := Lib.hid h64
  clear h64
  go_enter Try.func25, Try.ntmps25
  go_wp2_with (first | go_big_skip | ((with_reducible refine wpl_absorb H ?_); clear H; (first | ((fail_if_success (have _t := q1)); generalize W.heap.size = q1) | ((fail_if_success (have _t := q2)); generalize W.heap.size = q2) | ((fail_if_success (have _t := q3)); generalize W.heap.size = q3) | ((fail_if_success (have _t := q4)); generalize W.heap.size = q4) | ((fail_if_success (have _t := q5)); generalize W.heap.size = q5) | ((fail_if_success (have _t := q6)); generalize W.heap.size = q6) | ((fail_if_success (have _t := q7)); generalize W.heap.size = q7) | ((fail_if_success (have _t := q8)); generalize W.heap.size = q8) | ((fail_if_success (have _t := q9)); generalize W.heap.size = q9) | ((fail_if_success (have _t := q10)); generalize W.heap.size = q10) | ((fail_if_success (have _t := q11)); generalize W.heap.size = q11) | ((fail_if_success (have _t := q12)); generalize W.heap.size = q12) | ((fail_if_success (have _t := q13)); generalize W.heap.size = q13) | ((fail_if_success (have _t := q14)); generalize W.heap.size = q14) | ((fail_if_success (have _t := q15)); generalize W.heap.size = q15)); (try clear W); intro W H) | ((with_reducible refine wpl_drew H ?_); clear H; (try clear W); intro W H) | ((with_reducible refine wpl_drewN H ?_); clear H; (try clear W); intro W H) | ((with_reducible apply wpl_load H); (case hs => exact sc _ rfl); (case hw => rfl); (case hx => rfl); (case hm => (repeat (first | with_reducible exact List.mem_cons_self | with_reducible assumption | with_reducible apply List.mem_cons_of_mem))); (case hv => rfl)) | ((with_reducible apply wpl_loadA H); (case hs => exact ag _ _ rfl); (case hw => rfl); (case hx => rfl); (case hm => (repeat (first | with_reducible exact List.mem_cons_self | with_reducible assumption | with_reducible apply List.mem_cons_of_mem))); (case hv => rfl); (case hl => rfl); (try simp only [List.drop_zero, List.drop_succ_cons, List.take_succ_cons, List.take_zero, List.take_nil])) | ((with_reducible apply wpl_loadB H); (case hs => exact sc _ rfl); (case hw => rfl); (case hx => rfl); (case hm => (first | assumption | (apply gives_own; (case h => (repeat (first | with_reducible exact List.mem_cons_self | with_reducible assumption | with_reducible apply List.mem_cons_of_mem))); (case hn => rfl)) | (apply gives_blk; (case h => (repeat (first | with_reducible exact List.mem_cons_self | with_reducible assumption | with_reducible apply List.mem_cons_of_mem))); (case hn => rfl); (case hl => omega)) | (repeat (first | assumption | with_reducible apply Gives.cons)))); (case hj => first | assumption | omega)) | ((with_reducible apply wpl_loadB0 H); (case hs => exact sc _ rfl); (case hw => rfl); (case hx => rfl); (case hm => (first | assumption | (apply gives_own; (case h => (repeat (first | with_reducible exact List.mem_cons_self | with_reducible assumption | with_reducible apply List.mem_cons_of_mem))); (case hn => rfl)) | (apply gives_blk; (case h => (repeat (first | with_reducible exact List.mem_cons_self | with_reducible assumption | with_reducible apply List.mem_cons_of_mem))); (case hn => rfl); (case hl => omega)) | (repeat (first | assumption | with_reducible apply Gives.cons)))); (case hj => first | assumption | omega)) | ((with_reducible apply wpl_storeO H); (case hs => exact sz_sc _ rfl); (case hw => rfl); (case hx => rfl); (case hy => (first | exact (rfl : _ = Value.int _ _) | exact (rfl : _ = Value.bool _) | exact (rfl : _ = Value.slice _ _ _) | exact (rfl : _ = Value.pointer _) | exact (rfl : _ = Value.string _) | rfl)); (case h1 => rfl); (case hm => (repeat (first | with_reducible exact Upd.here | with_reducible assumption | with_reducible apply Upd.there))); (case hj => first | assumption | omega); clear H; (try clear W); intro W H) | ((with_reducible apply wpl_app H); (case ht => (first | exact Try.underlying22 | exact Try.underlying23 | exact Try.underlying25 | exact Try.underlying26 | exact Try.underlying29 | exact Try.underlying42 | exact Try.underlying44)); (case hinfo => (first | exact inf_4 | exact inf_5 | exact inf_22 | exact inf_24 | exact inf_51 | exact inf_61 | exact inf_66)); (case hw => rfl); (case hs => rfl); (case hx => rfl); (case hm => (repeat (first | with_reducible exact Pull.here | with_reducible apply Pull.there))); (case hzs => rfl); (case hsz => decide); (case hr => (first | assumption | (apply gives_own; (case h => (repeat (first | with_reducible exact List.mem_cons_self | with_reducible assumption | with_reducible apply List.mem_cons_of_mem))); (case hn => rfl)) | (apply gives_blk; (case h => (repeat (first | with_reducible exact List.mem_cons_self | with_reducible assumption | with_reducible apply List.mem_cons_of_mem))); (case hn => rfl); (case hl => omega)) | (repeat (first | assumption | with_reducible apply Gives.cons)))); (case h1 => first | exact bvs_oneCell _ | (intro u hu; obtain rfl := List.mem_singleton.1 hu; rfl)); (case h63 => (simp only [maxLen]; omega)); (case hbytes => omega); clear H; (try clear W); intro A1 n1 c1 W hn H hle1 htop1; obtain rfl := hn.out; clear hn) | ((with_reducible apply wpl_store1 H); (case hs => exact sz_sc _ rfl); (case hw => rfl); (case hx => rfl); (case hy => (first | exact (rfl : _ = Value.int _ _) | exact (rfl : _ = Value.bool _) | exact (rfl : _ = Value.slice _ _ _) | exact (rfl : _ = Value.pointer _) | exact (rfl : _ = Value.string _) | rfl)); (case hm => (repeat (first | with_reducible exact Upd.here | with_reducible assumption | with_reducible apply Upd.there))); (case h1 => rfl); (case hk => exact Nat.le_of_ble_eq_true rfl); clear H; (try clear W); intro W H; simp only [setL, List.set_cons_zero, List.set_cons_succ] at H) | ((with_reducible apply wpl_store H); (case hw => rfl); (case hx => rfl); (case hy => rfl); (case hm => (repeat (first | with_reducible exact Upd.here | with_reducible assumption | with_reducible apply Upd.there))); (case hs => exact sz_ag _ _ rfl); (case h1 => rfl); (case hk => exact Nat.le_of_ble_eq_true rfl); clear H; (try clear W); intro W H; first | rw [setL_whole rfl] at H | simp only [setL, List.set_cons_zero, List.set_cons_succ] at H) | ((with_reducible apply wpl_make1 H 0 (n + 1)); (case ht => exact Try.underlying44); (case hinfo => exact inf_22); (case hw => rfl); (case hl => rfl); (case hc => rfl); (case hN => rfl); (case hC => omega); (case hz1 => rfl); (case hnc => omega); (case hb => omega); (case h63 => omega); (case hmx => (simp only [maxLen]; omega)); clear H; (try clear W); intro q1 W H))
  have hls := h1.len
  replace H : Holds W (ownE 22 1 (.slice (some ⟨q1, 0, none⟩) 0 (n + 1)) 0 (List.replicate 0 (Value.slice none 0 0)) :: rowsE [] [] :: L) := Reord.use H (by ((repeat (with_reducible apply Reord.cons; (case p => (repeat (first | with_reducible exact Pull.here | with_reducible apply Pull.there))))); repeat (first | with_reducible exact Reord.rest | with_reducible apply Reord.drop)))
  go_loopw [3, 4] (fun t i wr => ∃ (k : Nat) (B : Option Addr) (c : Nat) (q : List (Option Addr × Nat)), k ≤ n ∧ i = .int .i64 k ∧ t = .slice B k c ∧ Holds wr (ownE 22 1 (.slice B k c) k (List.zipWith rv q (ls.take k)) :: rowsE q (ls.take k) :: L)) (fun _ i _ => n - (intOf i).toNat)
  case atStart => exact ⟨0, some ⟨q1, 0, none⟩, n + 1, [], by omega, rfl, rfl, H⟩
  case round =>
    clear H W
    obtain ⟨k, B, cb, q, hk, rfl, rfl, H⟩ := hrel
    rename World => W
    by_cases hlt : k < n
    · have hki : (k : Int) < n := by omega
      obtain ⟨s, hs1⟩ : ∃ s, ls[k]? = some s := ⟨_, List.getElem?_eq_getElem (by omega)⟩
      obtain ⟨Bs, m, cs, hh, gb⟩ := h1.at_ k s hs1
      obtain ⟨a1, o1, rfl, -⟩ := (h1.head W H.tail.tail).at_ (by omega)
      have hm := (gb W H.tail.tail).blen
      have hm1 := H64.out s (List.mem_of_getElem? hs1)
      have G1 : ∀ e f, Gives (e :: f :: L) fun w => Rd w 1 (some ⟨a1, o1, none⟩) n c hs := fun _ _ => .cons (.cons h1.head)
      have Hs1 := Lib.hid hs1
      have Hh := Lib.hid hh
      clear hs1 hh
      go_wp2_with (first | go_big_skip | ((with_reducible refine wpl_absorb H ?_); clear H; (first | ((fail_if_success (have _t := q1)); generalize W.heap.size = q1) | ((fail_if_success (have _t := q2)); generalize W.heap.size = q2) | ((fail_if_success (have _t := q3)); generalize W.heap.size = q3) | ((fail_if_success (have _t := q4)); generalize W.heap.size = q4) | ((fail_if_success (have _t := q5)); generalize W.heap.size = q5) | ((fail_if_success (have _t := q6)); generalize W.heap.size = q6) | ((fail_if_success (have _t := q7)); generalize W.heap.size = q7) | ((fail_if_success (have _t := q8)); generalize W.heap.size = q8) | ((fail_if_success (have _t := q9)); generalize W.heap.size = q9) | ((fail_if_success (have _t := q10)); generalize W.heap.size = q10) | ((fail_if_success (have _t := q11)); generalize W.heap.size = q11) | ((fail_if_success (have _t := q12)); generalize W.heap.size = q12) | ((fail_if_success (have _t := q13)); generalize W.heap.size = q13) | ((fail_if_success (have _t := q14)); generalize W.heap.size = q14) | ((fail_if_success (have _t := q15)); generalize W.heap.size = q15)); (try clear W); intro W H) | ((with_reducible refine wpl_drew H ?_); clear H; (try clear W); intro W H) | ((with_reducible refine wpl_drewN H ?_); clear H; (try clear W); intro W H) | ((with_reducible apply wpl_load H); (case hs => exact sc _ rfl); (case hw => rfl); (case hx => rfl); (case hm => (repeat (first | with_reducible exact List.mem_cons_self | with_reducible assumption | with_reducible apply List.mem_cons_of_mem))); (case hv => rfl)) | ((with_reducible apply wpl_loadA H); (case hs => exact ag _ _ rfl); (case hw => rfl); (case hx => rfl); (case hm => (repeat (first | with_reducible exact List.mem_cons_self | with_reducible assumption | with_reducible apply List.mem_cons_of_mem))); (case hv => rfl); (case hl => rfl); (try simp only [List.drop_zero, List.drop_succ_cons, List.take_succ_cons, List.take_zero, List.take_nil])) | ((with_reducible apply wpl_loadB H); (case hs => exact sc _ rfl); (case hw => rfl); (case hx => rfl); (case hm => (first | assumption | (apply gives_own; (case h => (repeat (first | with_reducible exact List.mem_cons_self | with_reducible assumption | with_reducible apply List.mem_cons_of_mem))); (case hn => rfl)) | (apply gives_blk; (case h => (repeat (first | with_reducible exact List.mem_cons_self | with_reducible assumption | with_reducible apply List.mem_cons_of_mem))); (case hn => rfl); (case hl => omega)) | (repeat (first | assumption | with_reducible apply Gives.cons)))); (case hj => first | assumption | omega)) | ((with_reducible apply wpl_loadB0 H); (case hs => exact sc _ rfl); (case hw => rfl); (case hx => rfl); (case hm => (first | assumption | (apply gives_own; (case h => (repeat (first | with_reducible exact List.mem_cons_self | with_reducible assumption | with_reducible apply List.mem_cons_of_mem))); (case hn => rfl)) | (apply gives_blk; (case h => (repeat (first | with_reducible exact List.mem_cons_self | with_reducible assumption | with_reducible apply List.mem_cons_of_mem))); (case hn => rfl); (case hl => omega)) | (repeat (first | assumption | with_reducible apply Gives.cons)))); (case hj => first | assumption | omega)) | ((with_reducible apply wpl_storeO H); (case hs => exact sz_sc _ rfl); (case hw => rfl); (case hx => rfl); (case hy => (first | exact (rfl : _ = Value.int _ _) | exact (rfl : _ = Value.bool _) | exact (rfl : _ = Value.slice _ _ _) | exact (rfl : _ = Value.pointer _) | exact (rfl : _ = Value.string _) | rfl)); (case h1 => rfl); (case hm => (repeat (first | with_reducible exact Upd.here | with_reducible assumption | with_reducible apply Upd.there))); (case hj => first | assumption | omega); clear H; (try clear W); intro W H) | ((with_reducible apply wpl_app H); (case ht => (first | exact Try.underlying22 | exact Try.underlying23 | exact Try.underlying25 | exact Try.underlying26 | exact Try.underlying29 | exact Try.underlying42 | exact Try.underlying44)); (case hinfo => (first | exact inf_4 | exact inf_5 | exact inf_22 | exact inf_24 | exact inf_51 | exact inf_61 | exact inf_66)); (case hw => rfl); (case hs => rfl); (case hx => rfl); (case hm => (repeat (first | with_reducible exact Pull.here | with_reducible apply Pull.there))); (case hzs => rfl); (case hsz => decide); (case hr => (first | assumption | (apply gives_own; (case h => (repeat (first | with_reducible exact List.mem_cons_self | with_reducible assumption | with_reducible apply List.mem_cons_of_mem))); (case hn => rfl)) | (apply gives_blk; (case h => (repeat (first | with_reducible exact List.mem_cons_self | with_reducible assumption | with_reducible apply List.mem_cons_of_mem))); (case hn => rfl); (case hl => omega)) | (repeat (first | assumption | with_reducible apply Gives.cons)))); (case h1 => first | exact bvs_oneCell _ | (intro u hu; obtain rfl := List.mem_singleton.1 hu; rfl)); (case h63 => (simp only [maxLen]; omega)); (case hbytes => omega); clear H; (try clear W); intro A1 n1 c1 W hn H hle1 htop1; obtain rfl := hn.out; clear hn) | ((with_reducible apply wpl_store1 H); (case hs => exact sz_sc _ rfl); (case hw => rfl); (case hx => rfl); (case hy => (first | exact (rfl : _ = Value.int _ _) | exact (rfl : _ = Value.bool _) | exact (rfl : _ = Value.slice _ _ _) | exact (rfl : _ = Value.pointer _) | exact (rfl : _ = Value.string _) | rfl)); (case hm => (repeat (first | with_reducible exact Upd.here | with_reducible assumption | with_reducible apply Upd.there))); (case h1 => rfl); (case hk => exact Nat.le_of_ble_eq_true rfl); clear H; (try clear W); intro W H; simp only [setL, List.set_cons_zero, List.set_cons_succ] at H) | ((with_reducible apply wpl_store H); (case hw => rfl); (case hx => rfl); (case hy => rfl); (case hm => (repeat (first | with_reducible exact Upd.here | with_reducible assumption | with_reducible apply Upd.there))); (case hs => exact sz_ag _ _ rfl); (case h1 => rfl); (case hk => exact Nat.le_of_ble_eq_true rfl); clear H; (try clear W); intro W H; first | rw [setL_whole rfl] at H | simp only [setL, List.set_cons_zero, List.set_cons_succ] at H) | ((with_reducible apply wpl_loadV H); (case hs => exact sc _ rfl); (case hw => rfl); (case hx => rfl); (case hm => exact G1 _ _); (case hj => assumption); (case hv => exact Hh.out)) | ((with_reducible apply twin2_k H); (case hr => exact .cons (.cons gb)); (case hn => omega); clear H; (try clear W); intro b2 c2 W H))
      have hql := rows_len H (.tail _ (.tail _ (.tail _ (.head _))))
      have ht : ls.take (k + 1) = ls.take k ++ [s] := by rw [List.take_add_one, Hs1.out]; rfl
      refine ⟨⟨k + 1, A1, c1, q ++ [(some ⟨b2, 0, none⟩, c2)], by omega, by rw [show ((k : Int) + 1) = ((k + 1 : Nat) : Int) from by omega], rfl, ?_⟩, by simp only [intOf]; omega⟩
      rw [ht, List.zipWith_append hql]
      subst hm
      have H3 : Holds W (rowE (some ⟨b2, 0, none⟩, c2) s :: rowsE q (ls.take k) :: ownE 22 1 (.slice A1 (k + 1) c1) (k + 1) (List.zipWith rv q (ls.take k) ++ [.slice (some ⟨b2, 0, none⟩) s.length c2]) :: L) := Reord.use H (by unfold rowE rv; ((repeat (with_reducible apply Reord.cons; (case p => (repeat (first | with_reducible exact Pull.here | with_reducible apply Pull.there))))); repeat (first | with_reducible exact Reord.rest | with_reducible apply Reord.drop)))
      exact (rows_add H3).perm (List.Perm.swap _ _ _)
    · obtain rfl : k = n := by omega
      go_wp2_with (first | go_big_skip | ((with_reducible refine wpl_absorb H ?_); clear H; (first | ((fail_if_success (have _t := q1)); generalize W.heap.size = q1) | ((fail_if_success (have _t := q2)); generalize W.heap.size = q2) | ((fail_if_success (have _t := q3)); generalize W.heap.size = q3) | ((fail_if_success (have _t := q4)); generalize W.heap.size = q4) | ((fail_if_success (have _t := q5)); generalize W.heap.size = q5) | ((fail_if_success (have _t := q6)); generalize W.heap.size = q6) | ((fail_if_success (have _t := q7)); generalize W.heap.size = q7) | ((fail_if_success (have _t := q8)); generalize W.heap.size = q8) | ((fail_if_success (have _t := q9)); generalize W.heap.size = q9) | ((fail_if_success (have _t := q10)); generalize W.heap.size = q10) | ((fail_if_success (have _t := q11)); generalize W.heap.size = q11) | ((fail_if_success (have _t := q12)); generalize W.heap.size = q12) | ((fail_if_success (have _t := q13)); generalize W.heap.size = q13) | ((fail_if_success (have _t := q14)); generalize W.heap.size = q14) | ((fail_if_success (have _t := q15)); generalize W.heap.size = q15)); (try clear W); intro W H) | ((with_reducible refine wpl_drew H ?_); clear H; (try clear W); intro W H) | ((with_reducible refine wpl_drewN H ?_); clear H; (try clear W); intro W H) | ((with_reducible apply wpl_load H); (case hs => exact sc _ rfl); (case hw => rfl); (case hx => rfl); (case hm => (repeat (first | with_reducible exact List.mem_cons_self | with_reducible assumption | with_reducible apply List.mem_cons_of_mem))); (case hv => rfl)) | ((with_reducible apply wpl_loadA H); (case hs => exact ag _ _ rfl); (case hw => rfl); (case hx => rfl); (case hm => (repeat (first | with_reducible exact List.mem_cons_self | with_reducible assumption | with_reducible apply List.mem_cons_of_mem))); (case hv => rfl); (case hl => rfl); (try simp only [List.drop_zero, List.drop_succ_cons, List.take_succ_cons, List.take_zero, List.take_nil])) | ((with_reducible apply wpl_loadB H); (case hs => exact sc _ rfl); (case hw => rfl); (case hx => rfl); (case hm => (first | assumption | (apply gives_own; (case h => (repeat (first | with_reducible exact List.mem_cons_self | with_reducible assumption | with_reducible apply List.mem_cons_of_mem))); (case hn => rfl)) | (apply gives_blk; (case h => (repeat (first | with_reducible exact List.mem_cons_self | with_reducible assumption | with_reducible apply List.mem_cons_of_mem))); (case hn => rfl); (case hl => omega)) | (repeat (first | assumption | with_reducible apply Gives.cons)))); (case hj => first | assumption | omega)) | ((with_reducible apply wpl_loadB0 H); (case hs => exact sc _ rfl); (case hw => rfl); (case hx => rfl); (case hm => (first | assumption | (apply gives_own; (case h => (repeat (first | with_reducible exact List.mem_cons_self | with_reducible assumption | with_reducible apply List.mem_cons_of_mem))); (case hn => rfl)) | (apply gives_blk; (case h => (repeat (first | with_reducible exact List.mem_cons_self | with_reducible assumption | with_reducible apply List.mem_cons_of_mem))); (case hn => rfl); (case hl => omega)) | (repeat (first | assumption | with_reducible apply Gives.cons)))); (case hj => first | assumption | omega)) | ((with_reducible apply wpl_storeO H); (case hs => exact sz_sc _ rfl); (case hw => rfl); (case hx => rfl); (case hy => (first | exact (rfl : _ = Value.int _ _) | exact (rfl : _ = Value.bool _) | exact (rfl : _ = Value.slice _ _ _) | exact (rfl : _ = Value.pointer _) | exact (rfl : _ = Value.string _) | rfl)); (case h1 => rfl); (case hm => (repeat (first | with_reducible exact Upd.here | with_reducible assumption | with_reducible apply Upd.there))); (case hj => first | assumption | omega); clear H; (try clear W); intro W H) | ((with_reducible apply wpl_app H); (case ht => (first | exact Try.underlying22 | exact Try.underlying23 | exact Try.underlying25 | exact Try.underlying26 | exact Try.underlying29 | exact Try.underlying42 | exact Try.underlying44)); (case hinfo => (first | exact inf_4 | exact inf_5 | exact inf_22 | exact inf_24 | exact inf_51 | exact inf_61 | exact inf_66)); (case hw => rfl); (case hs => rfl); (case hx => rfl); (case hm => (repeat (first | with_reducible exact Pull.here | with_reducible apply Pull.there))); (case hzs => rfl); (case hsz => decide); (case hr => (first | assumption | (apply gives_own; (case h => (repeat (first | with_reducible exact List.mem_cons_self | with_reducible assumption | with_reducible apply List.mem_cons_of_mem))); (case hn => rfl)) | (apply gives_blk; (case h => (repeat (first | with_reducible exact List.mem_cons_self | with_reducible assumption | with_reducible apply List.mem_cons_of_mem))); (case hn => rfl); (case hl => omega)) | (repeat (first | assumption | with_reducible apply Gives.cons)))); (case h1 => first | exact bvs_oneCell _ | (intro u hu; obtain rfl := List.mem_singleton.1 hu; rfl)); (case h63 => (simp only [maxLen]; omega)); (case hbytes => omega); clear H; (try clear W); intro A1 n1 c1 W hn H hle1 htop1; obtain rfl := hn.out; clear hn) | ((with_reducible apply wpl_store1 H); (case hs => exact sz_sc _ rfl); (case hw => rfl); (case hx => rfl); (case hy => (first | exact (rfl : _ = Value.int _ _) | exact (rfl : _ = Value.bool _) | exact (rfl : _ = Value.slice _ _ _) | exact (rfl : _ = Value.pointer _) | exact (rfl : _ = Value.string _) | rfl)); (case hm => (repeat (first | with_reducible exact Upd.here | with_reducible assumption | with_reducible apply Upd.there))); (case h1 => rfl); (case hk => exact Nat.le_of_ble_eq_true rfl); clear H; (try clear W); intro W H; simp only [setL, List.set_cons_zero, List.set_cons_succ] at H) | ((with_reducible apply wpl_store H); (case hw => rfl); (case hx => rfl); (case hy => rfl); (case hm => (repeat (first | with_reducible exact Upd.here | with_reducible assumption | with_reducible apply Upd.there))); (case hs => exact sz_ag _ _ rfl); (case h1 => rfl); (case hk => exact Nat.le_of_ble_eq_true rfl); clear H; (try clear W); intro W H; first | rw [setL_whole rfl] at H | simp only [setL, List.set_cons_zero, List.set_cons_succ] at H))
      obtain ⟨b, rfl⟩ := own_some (H.all _ List.mem_cons_self) (Nat.succ_pos _)
      have H2 := H.shrink (m := k) (by omega)
      rw [List.take_of_length_le (l := ls) (by omega)] at H2
      have hql := rows_len H2 (.tail _ (.tail _ (.tail _ (.head _))))
      rw [List.take_left' (by rw [List.length_zipWith]; omega)] at H2
      exact HK.out _ _ _ _ (ls_shut (Reord.use H2 (by ((repeat (with_reducible apply Reord.cons; (case p => (repeat (first | with_reducible exact Pull.here | with_reducible apply Pull.there))))); repeat (first | with_reducible exact Reord.rest | with_reducible apply Reord.drop)))) hls)
end
end Go.Proofs.Ytaegjjaabeakoaa
