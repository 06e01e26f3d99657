/-
  stores: the walk of StoresAnew.
-/
import Derived.Test.YtdnioigcgggdbaaStM
import Derived.Test.YtdnioigcgggdbaaOpN
set_option linter.unusedVariables false
set_option linter.unusedSimpArgs false
namespace Go.Proofs.Ytdnioigcgggdbaa
open Go.RowKit
section
variable {W : World} {L L' L0 : List Ent} {R : Ending → World → Prop} {g : Nat} {dv : Dv} {d : Dd}
theorem rdL_rws {A : Option Addr} {n c : Nat} {q : List (Option Addr × Nat)} {ls : List (List UInt8)} (H : Holds W L) (ho : ownE 22 1 (.slice A n c) n (List.zipWith rh q ls) ∈ L) (hr : rwsE q ls ∈ L) (hn : ls.length = n) : RdL L A n c (List.zipWith rh q ls) ls := by
  have hql := rws_len H hr
  refine ⟨gives_own ho rfl, hn, fun j l hj => ?_⟩
  have hlt := (List.getElem?_eq_some_iff.1 hj).1
  have hq : q[j]? = some q[j] := List.getElem?_eq_getElem (by omega)
  exact ⟨q[j].1, l.length, q[j].2, zip_rhS hq hj, gives_rws hr hq hj⟩
theorem len_n (n : Nat) (H : Holds W L) (hm : Pull (dkE g dv d) L L0) (hn : d.su.length = n) (k : ∀ w', Holds w' (dkE g dv d :: L0) → R (.returned (.int .i64 (n : Int))) w') : Calls Try.prog 33 #[.pointer (some ⟨g, 0, none⟩)] W R := by
  subst hn
  exact len_k H hm k
set_option maxRecDepth 100000 in
set_option maxHeartbeats 2000000 in
/-- what stands in each sector. -/
theorem all_k (H : Holds W L) (hm : Pull (dkE g dv d) L L0) (k : ∀ A c q w', Holds w' (ownE 22 1 (.slice A d.su.length c) d.su.length (List.zipWith rh q d.no) :: rwsE q d.no :: dkE g dv d :: L0) → R (.returned (.slice A d.su.length c)) w') :
    Calls Try.prog 22 #[.pointer (some ⟨g, 0, none⟩)] W R := by
  have H2 := H.pull hm
  clear H hm
  have ho := dk_ok' H2.head
  have H := rws_new (H2.add_nil 22 1)
  clear H2
  have HK := Lib.hid k; clear k
  have h4 := ho.n1
  have hnn := ho.nn
  have Hnl := Lib.hid ho.nl
  clear ho
  obtain ⟨n, hn⟩ : ∃ n, d.su.length = n := ⟨_, rfl⟩
  rw [hn] at HK h4 hnn
  have Hn := Lib.hid hn
  clear hn
  go_enter Try.func22, Try.ntmps22
  go_wp2_with (first | go_big_skip | ((with_reducible refine wpl_absorb H ?_); clear H; (first  | generalize W.heap.size = q0); (try clear W); intro W H) | ((with_reducible refine wpl_drew H ?_); clear H; (try clear W); intro W H) | ((with_reducible refine wpl_drewN H ?_); clear H; (try clear W); intro W H) | ((with_reducible apply wpl_load H); (case hs => exact sc _ rfl); (case hw => rfl); (case hx => rfl); (case hm => (repeat (first | with_reducible exact mH | with_reducible assumption | with_reducible apply mT))); (case hv => rfl)))
  go_loopw [3, 4] (fun s iv wr => ∃ (i : Nat) (A : Option Addr) (c : Nat) (q : List (Option Addr × Nat)), i ≤ n ∧ iv = .int .i64 i ∧ s = .slice A i c ∧ Holds wr (rwsE q (d.no.take i) :: ownE 22 1 (.slice A i c) i (List.zipWith rh q (d.no.take i)) :: dkE g dv d :: L0)) (fun _ iv _ => n - (intOf iv).toNat)
  case atStart => exact ⟨0, none, 0, [], by omega, rfl, rfl, H⟩
  case round =>
    clear H
    obtain ⟨i, A, c, q, hi, rfl, rfl, H⟩ := hrel
    rename World => W
    have hql := rws_len (q := q) H (by (repeat (first | with_reducible exact mH | with_reducible assumption | with_reducible apply mT)))
    have Hql := Lib.hid hql
    clear hql
    by_cases hlt : i < n
    · have hii : (i : Int) < n := by omega
      obtain ⟨s, hs⟩ : ∃ s, d.no[i]? = some s := ⟨_, List.getElem?_eq_getElem (by omega)⟩
      have hs64 := Hnl.out s (List.mem_of_getElem? hs)
      have Hs := Lib.hid hs
      have Hs64 := Lib.hid hs64
      have Htk := Lib.hid (take_snoc hs)
      clear hs hs64
      go_wp2_with (first | go_big_skip | ((with_reducible refine wpl_absorb H ?_); clear H; (first  | generalize W.heap.size = q0); (try clear W); intro W H) | ((with_reducible refine wpl_drew H ?_); clear H; (try clear W); intro W H) | ((with_reducible refine wpl_drewN H ?_); clear H; (try clear W); intro W H) | ((with_reducible apply wpl_load H); (case hs => exact sc _ rfl); (case hw => rfl); (case hx => rfl); (case hm => (repeat (first | with_reducible exact mH | with_reducible assumption | with_reducible apply mT))); (case hv => rfl)) | ((with_reducible apply len_n); (case H => exact H); (case hm => (repeat (first | with_reducible exact Pull.here | with_reducible apply Pull.there))); (case hn => exact Hn.out); clear H; (try clear W); intro W H) | ((with_reducible apply read_k i s Hs.out); (case H => exact H); (case hm => (repeat (first | with_reducible exact Pull.here | with_reducible apply Pull.there))); clear H; (try clear W); intro rb W H) | ((with_reducible apply wpl_slice1 (vs := [.slice (some ⟨rb, 0, none⟩) 64 64]) H); (case hw => rfl); (case hx => rfl); (case ht => exact Try.underlying25); (case hinfo => exact inf_22); (case hzs => rfl); (case hl => rfl); (case h0 => decide); (case h24 => exact Nat.le_of_ble_eq_true rfl); clear H; (try clear W); intro sb W H) | ((with_reducible apply wpl_app H); (case hw => rfl); (case ht => exact Try.underlying25); (case hinfo => exact inf_22); (case hs => rfl); (case hx => rfl); (case hm => (repeat (first | with_reducible exact Pull.here | with_reducible apply Pull.there))); (case hzs => rfl); (case hsz => decide); (case hr => exact gives_blk (by (repeat (first | with_reducible exact mH | with_reducible assumption | with_reducible apply mT))) rfl (by omega)); (case h1 => (intro u hu; obtain rfl := List.mem_singleton.1 hu; rfl)); (case h63 => (simp only [maxLen]; omega)); (case hbytes => omega); clear H; (try clear W); intro A5 n5 c5 W hn5 H hle5 htop5; obtain rfl := hn5.out; clear hn5))
      refine ⟨⟨i + 1, A5, c5, q ++ [(some ⟨rb, 0, none⟩, 64)], by omega, congrArg (Value.int .i64) (by omega), rfl, ?_⟩, by simp only [intOf]; omega⟩
      have H3 : Holds W (ownE 5 1 (.slice (some ⟨rb, 0, none⟩) 64 64) 64 (bvs s) :: rwsE q (d.no.take i) :: ownE 22 1 (.slice A5 (i + 1) c5) (i + 1) (List.zipWith rh q (d.no.take i) ++ [.slice (some ⟨rb, 0, none⟩) 64 64]) :: dkE g dv d :: L0) := Reord.use H (by ((repeat (with_reducible apply Reord.cons; (case p => (repeat (first | with_reducible exact Pull.here | with_reducible apply Pull.there))))); repeat (first | with_reducible exact Reord.rest | with_reducible apply Reord.drop)))
      rw [rwE_64 Hs64.out] at H3
      have H4 := rws_add H3
      rw [show List.zipWith rh q (d.no.take i) ++ [.slice (some ⟨rb, 0, none⟩) 64 64] = List.zipWith rh (q ++ [(some ⟨rb, 0, none⟩, 64)]) (d.no.take i ++ [s]) from by
        rw [List.zipWith_append Hql.out]
        unfold rh
        simp only [List.zipWith_cons_cons, List.zipWith_nil_left, Hs64.out], ← Htk.out] at H4
      exact H4
    · obtain rfl : i = n := by omega
      rw [List.take_of_length_le (by omega)] at H
      go_wp2_with (first | go_big_skip | ((with_reducible refine wpl_absorb H ?_); clear H; (first  | generalize W.heap.size = q0); (try clear W); intro W H) | ((with_reducible refine wpl_drew H ?_); clear H; (try clear W); intro W H) | ((with_reducible refine wpl_drewN H ?_); clear H; (try clear W); intro W H) | ((with_reducible apply wpl_load H); (case hs => exact sc _ rfl); (case hw => rfl); (case hx => rfl); (case hm => (repeat (first | with_reducible exact mH | with_reducible assumption | with_reducible apply mT))); (case hv => rfl)) | ((with_reducible apply len_n); (case H => exact H); (case hm => (repeat (first | with_reducible exact Pull.here | with_reducible apply Pull.there))); (case hn => exact Hn.out); clear H; (try clear W); intro W H))
      exact HK.out A c q _ (Reord.use H (by ((repeat (with_reducible apply Reord.cons; (case p => (repeat (first | with_reducible exact Pull.here | with_reducible apply Pull.there))))); repeat (first | with_reducible exact Reord.rest | with_reducible apply Reord.drop))))
end
end Go.Proofs.Ytdnioigcgggdbaa
