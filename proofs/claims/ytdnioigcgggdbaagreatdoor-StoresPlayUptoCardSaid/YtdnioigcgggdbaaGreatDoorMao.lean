/-
  The references: almonerref04.Of, almonerref06.Sectors, Put where the record is too long.
  The references: almonerref06.Put.
-/
import Derived.Test.YtdnioigcgggdbaaGreatDoorMan
import Derived.Test.YtdnioigcgggdbaaGreatDoorMai
import Derived.Test.YtdnioigcgggdbaaGreatDoorMab
set_option linter.unusedVariables false
set_option linter.unusedSimpArgs false
namespace Go.Proofs.YtdnioigcgggdbaaGreatDoor
open Go.RowKit

section
variable {W : World} {L L' L0 : List Ent} {R : Ending → World → Prop} {A : Option Addr} {m c : Nat} {l : List UInt8}
set_option maxRecDepth 100000 in
set_option maxHeartbeats 1000000 in
theorem rOf_k (hm : m ≤ 1000000) (G : Gives L fun w => Rd w 1 A m c (bvs l)) (H : Holds W L) (k : ∀ w', Holds w' L → R (.returned (.int .u32 (onF 1 l : Nat))) w') :
    Calls Tryz.prog 101 #[.slice A m c] W R := by
  have HK := Lib.hid k; clear k
  go_enter Tryz.func101, Tryz.ntmps101
  go_wp2_with (first | (with_reducible apply rOn_k (s := 1)); (case H => exact H); (case hS => rfl); (case hs => decide); (case hn => exact hm); (case G => exact G); clear H; (try clear W); intro W H)
  exact HK.out _ H
set_option maxRecDepth 100000 in
set_option maxHeartbeats 1000000 in
theorem rsecs_k {n : Nat} {N : Int} (hN : N = (n : Int)) (hn : n ≤ 1000000) (H : Holds W L) (k : ∀ w', Holds w' L → R (.returned (.int .i64 (secs n : Nat))) w') :
    Calls Tryz.prog 100 #[.int .i64 N] W R := by
  have HK := Lib.hid k; clear k
  subst hN
  go_enter Tryz.func100, Tryz.ntmps100
  go_wp2_with (first | go_big_skip )
  have := HK.out _ H
  rw [← quo64 n] at this
  exact this
set_option maxRecDepth 100000 in
set_option maxHeartbeats 1000000 in
theorem rput_no {x : Int} (hm : 256 < m) (h63 : m ≤ 9223372036854775807) (H : Holds W L) (k : ∀ w', Holds w' L → R (.returned (.tuple #[.slice none 0 0, .int .i64 3])) w') :
    Calls Tryz.prog 59 #[.int .u64 x, .slice A m c] W R := by
  have HK := Lib.hid k; clear k
  go_enter Tryz.func59, Tryz.ntmps59
  go_wp2_with (first | go_big_skip )
  exact HK.out _ H
end
end Go.Proofs.YtdnioigcgggdbaaGreatDoor
set_option linter.unusedVariables false
set_option linter.unusedSimpArgs false
namespace Go.Proofs.YtdnioigcgggdbaaGreatDoor
open Go.RowKit

theorem head_eq2 (x : Nat) (l : List UInt8) : recM ++ (be 8 x ++ be 2 l.length) ++ be 4 (onF 1 (be 8 x ++ (be 2 l.length ++ l))) ++ l = headF x l := by
  unfold headF tl
  rw [onF_onF]
  simp only [List.append_assoc]
section
variable {W : World} {L L' L0 : List Ent} {R : Ending → World → Prop} {A : Option Addr} {m c : Nat} {l : List UInt8}
set_option maxRecDepth 100000 in
set_option maxHeartbeats 4000000 in
theorem rfput_k {x : Nat} {X : Int} (hX : X = (x : Int)) (hx : x < 18446744073709551616) (G : Gives L fun w => Rd w 1 A m c (bvs l)) (hm : m ≤ 256) (H : Holds W L) (k : ∀ A' n' c' w', n' = secs m * 64 → Holds w' (ownE 5 1 (.slice A' n' c') n' (bvs (putF x l)) :: L) → R (.returned (.tuple #[.slice A' n' c', .int .i64 0])) w') :
    Calls Tryz.prog 59 #[.int .u64 X, .slice A m c] W R := by
  subst hX
  have Hlen := Lib.hid (G W H).blen
  have hle := (G W H).le
  have Heq := Lib.hid (head_eq2 x l)
  rw [Hlen.out] at Heq
  have Hon := Lib.hid (onF_lt 1 (be 8 x ++ (be 2 m ++ l)))
  have HK := Lib.hid k; clear k
  go_enter Tryz.func59, Tryz.ntmps59
  go_wp2_with (first | ((with_reducible refine wpl_absorb H ?_); clear H; (first  | generalize W.heap.size = q0); (try clear W); intro W H) | ((with_reducible apply wpl_app H); (case ht => (first | exact Tryz.underlying50 )); (case hinfo => (first | exact inf_5 )); (case hw | hs | hx => rfl); (case hm => (with_reducible repeat first | exact Pull.here | apply Pull.there)); (case hzs => rfl); (case hsz => decide); (case hr => (first | (repeat (first | assumption | with_reducible apply Gives.cons)))); (case h1 => first | exact bvs_oneCell _ ); (case h63 => (simp only [maxLen]; omega)); (case hbytes => omega); clear H; (try clear W); intro A1 n1 c1 W hn H hle1 htop1; obtain rfl := hn.out; clear hn) | ((with_reducible apply rPut_k (x := x) (b := 8) (m := 0) (l := [])); (case H => exact H); (case G => exact gives_nilB); (case hX => rfl); (case hx => exact hx); (case hK => rfl); (case hb | hm => decide); clear H; (try clear W); intro A1 n1 d1 W hn1 H; obtain rfl : n1 = 8 := (by omega); clear hn1; rw [List.nil_append] at H) | ((with_reducible apply rPut_k (x := m) (b := 2) (m := 8) (l := be 8 x)); (case H => exact H); (case G => (apply gives_own; (case h => (with_reducible repeat first | exact mH)); (case hn => rfl))); (case hX => rfl); (case hx => omega); (case hK => rfl); (case hb | hm => decide); clear H; (try clear W); intro A2 n2 d2 W hn2 H; obtain rfl : n2 = 10 := (by omega); clear hn2) | ((with_reducible apply wpl_convB H); (case hx | hw => rfl); (case hm => (with_reducible repeat first | exact Pull.here)); clear H; (try clear W); intro W H) | ((with_reducible apply wpl_appF H); (case hw | hs | hx => rfl); (case ht => exact Tryz.underlying50); (case hinfo => exact inf_5); (case hz1 => rfl); (case hold => exact gives_blkF (cs := [.int .u8 82, .int .u8 69, .int .u8 67, .int .u8 49]) (by (with_reducible repeat first | exact mH)) rfl (by decide)); (case hr => (apply gives_own; (case h => (with_reducible repeat first | exact mH | apply mT)); (case hn => rfl))); (case hm | hn => decide); (case h6 | hb => decide); clear H; (try clear W); intro b3 c3 W hc3 H; rw [show ([.int .u8 82, .int .u8 69, .int .u8 67, .int .u8 49] : List Value) = bvs recM from rfl, ← bvs_append] at H) | ((rw [← bvs_append] at H); (with_reducible apply rOf_k (l := be 8 x ++ be 2 m ++ l)); (case H => exact H); (case hm => omega); (case G => (apply gives_own; (case h => (with_reducible repeat first | exact mH)); (case hn => rfl))); clear H; (try clear W); intro W H) | ((with_reducible apply rPut_k (x := onF 1 (be 8 x ++ (be 2 m ++ l))) (b := 4) (m := 14) (l := recM ++ (be 8 x ++ be 2 m))); (case H => exact H); (case G => (apply gives_own; (case h => (with_reducible repeat first | exact mH | apply mT)); (case hn => rfl))); (case hX => exact wrap_u64_small (by omega) (by have := Hon.out; omega)); (case hx => (have := Hon.out; omega)); (case hK => rfl); (case hb | hm => decide); clear H; (try clear W); intro A4 n4 d4 W hn4 H; obtain rfl : n4 = 18 := (by omega); clear hn4))
  rw [← bvs_append, Heq.out] at H
  have hs1 := secs_le m
  have hs2 := secs_lt m
  have HSS : Hid (secs m = (18 + m + 63) / 64) := Lib.hid rfl
  obtain ⟨s, hs⟩ : ∃ s, s = secs m := ⟨_, rfl⟩
  rw [← hs] at HSS HK hs1 hs2
  have Hs := Lib.hid hs
  clear hs
  go_loopw [7] (fun t wr => ∃ (j : Nat) (A' : Option Addr) (c' : Nat), 18 + m + j ≤ s * 64 ∧ t = .slice A' (18 + m + j) c' ∧ Holds wr (ownE 5 1 (.slice A' (18 + m + j) c') (18 + m + j) (bvs (headF x l ++ List.replicate j 0)) :: L)) (fun t _ => match t with | .slice _ n _ => s * 64 - n | _ => 0)
  case atStart => exact ⟨0, A1, c1, by omega, rfl, by rw [List.replicate_zero, List.append_nil, Nat.add_zero]; exact Reord.use H (by ((repeat (with_reducible apply Reord.cons; (case p => (with_reducible repeat first | exact Pull.here)))); repeat (first | with_reducible exact Reord.rest | with_reducible apply Reord.drop)))⟩
  case round =>
    clear H
    obtain ⟨j, A', c', hj, rfl, H⟩ := hrel
    rename World => W
    by_cases hlt : 18 + m + j < s * 64
    · have hne : ¬ (18 + (m : Int) + (j : Int)) % 64 = 0 := by omega
      have hbq : ((18 + (m : Int) + (j : Int)) % 64 != 0) = true := bne_iff_ne.2 hne
      go_wp2_with (first | ((with_reducible refine wpl_absorb H ?_); clear H; (first  | generalize W.heap.size = q0); (try clear W); intro W H) | ((with_reducible apply wpl_app H); (case ht => (first | exact Tryz.underlying50 )); (case hinfo => (first | exact inf_5 )); (case hw | hs | hx => rfl); (case hm => (with_reducible repeat first | exact Pull.here | apply Pull.there)); (case hzs => rfl); (case hsz => decide); (case hr => (first | (apply gives_blk; (case h => (with_reducible repeat first | exact mH)); (case hn => rfl); (case hl => omega)) )); (case h1 => first | (intro u hu; obtain rfl := List.mem_singleton.1 hu; rfl)); (case h63 => (simp only [maxLen]; omega)); (case hbytes => omega); clear H; (try clear W); intro A1 n1 c1 W hn H hle1 htop1; obtain rfl := hn.out; clear hn) )
      rw [show ([Value.int .u8 0] : List Value) = bvs [0] from rfl, ← bvs_append, List.append_assoc, ← List.replicate_succ', Nat.add_assoc (18 + m) j 1] at H
      exact ⟨⟨j + 1, _, _, by omega, rfl, Reord.use H (by ((repeat (with_reducible apply Reord.cons; (case p => (with_reducible repeat first | exact Pull.here)))); repeat (first | with_reducible exact Reord.rest | with_reducible apply Reord.drop)))⟩, by simp only; omega⟩
    · have heq : (18 + (m : Int) + (j : Int)) % 64 = 0 := by omega
      have hbq : ((18 + (m : Int) + (j : Int)) % 64 != 0) = false := by rw [heq]; rfl
      clear heq
      go_wp2_with (first | go_big_skip )
      have e : headF x l ++ List.replicate j 0 = putF x l := by
        unfold putF
        rw [Hlen.out, ← Hs.out]
        congr 2
        omega
      rw [e] at H
      exact HK.out _ _ _ _ (by omega) H
end
end Go.Proofs.YtdnioigcgggdbaaGreatDoor
