/-
  frames.Put.
  frames: the first two steps of a check.
-/
import Derived.Test.YtdnioigcgggdbaaGreatDoorMai
import Derived.Laws.IdiomStrings
set_option linter.unusedVariables false
set_option linter.unusedSimpArgs false
namespace Go.Proofs.YtdnioigcgggdbaaGreatDoor
open Go.RowKit

section
variable {W : World} {L L' L0 : List Ent} {R : Ending → World → Prop} {A : Option Addr} {m c : Nat} {l : List UInt8}
set_option maxRecDepth 100000 in
set_option maxHeartbeats 1000000 in
theorem fput_no {x : Int} (hm : 256 < m) (h63 : m ≤ 9223372036854775807) (H : Holds W L) (k : ∀ w', Holds w' L → R (.returned (.tuple #[.slice none 0 0, .int .i64 3])) w') :
    Calls Tryz.prog 56 #[.int .u64 x, .slice A m c] W R := by
  have HK := Lib.hid k; clear k
  go_enter Tryz.func56, Tryz.ntmps56
  go_wp2_with (first | go_big_skip )
  exact HK.out _ H
theorem put_cells {x : Nat} (hm : l.length = m) : setL (List.replicate (secs m * 64) (Value.int .u8 0)) 0 ((bvs (recM ++ (be 8 x ++ be 2 m ++ (be 4 (onF (onF 1 (be 8 x ++ be 2 m)) l) ++ l)))).take (Nat.min (4 + 10 + 4 + m) (secs m * 64) * 1)) = bvs (putF x l) := by
  subst hm
  have hs := secs_le l.length
  have e : recM ++ (be 8 x ++ be 2 l.length ++ (be 4 (onF (onF 1 (be 8 x ++ be 2 l.length)) l) ++ l)) = headF x l := rfl
  have hh := headF_len x l
  have hb : (bvs (headF x l)).length = 18 + l.length := by unfold bvs; rw [List.length_map, hh]
  have hmin : Nat.min (4 + 10 + 4 + l.length) (secs l.length * 64) * 1 = 18 + l.length := by
    rw [Nat.mul_one]
    have : Nat.min (4 + 10 + 4 + l.length) (secs l.length * 64) = min (4 + 10 + 4 + l.length) (secs l.length * 64) := rfl
    omega
  rw [e, hmin, List.take_of_length_le (by omega), setL_eq _ _ _ (by rw [List.length_replicate]; omega)]
  unfold putF
  rw [List.take_zero, List.nil_append, Nat.zero_add, hb, List.drop_replicate]
  unfold bvs
  rw [List.map_append, List.map_replicate]
  rfl
set_option maxRecDepth 100000 in
set_option maxHeartbeats 4000000 in
theorem fput_k {x : Nat} {X : Int} (hX : X = (x : Int)) (G : Gives L fun w => Rd w 1 A m c (bvs l)) (hm : m ≤ 256) (H : Holds W L) (k : ∀ b c' w', Holds w' (ownE 5 1 (.slice (some ⟨b, 0, none⟩) (secs m * 64) c') (secs m * 64) (bvs (putF x l)) :: L) → R (.returned (.tuple #[.slice (some ⟨b, 0, none⟩) (secs m * 64) c', .int .i64 0])) w') :
    Calls Tryz.prog 56 #[.int .u64 X, .slice A m c] W R := by
  have HK := Lib.hid k; clear k
  subst hX
  have hl := Lib.hid (G W H).blen
  have hs1 := secs_le m
  have hs2 := secs_lt m
  go_enter Tryz.func56, Tryz.ntmps56
  go_wp2_with (first | ((with_reducible refine wpl_absorb H ?_); clear H; (first  | generalize W.heap.size = q0); (try clear W); intro W H) | ((with_reducible apply sectors_k (n := m)); (case H => exact H); (case hN => rfl); (case hn => omega); clear H; (try clear W); intro W H) | ((with_reducible apply wpl_make1 H (secs m * 64) (secs m * 64)); (case hw => rfl); (case ht => exact Tryz.underlying50); (case hinfo => exact inf_5); (case hz1 | hl => rfl); (case hN => omega); (case hc => rfl); (case hC => omega); (case hnc => exact Nat.le_refl _); (case hb | h63 => omega); (case hmx => (simp only [maxLen]; omega)); clear H; (try clear W); intro qo W H) | ((with_reducible apply nput_k (x := x) (k := 8) (m := 0) (l := [])); (case H => exact H); (case G => exact gives_nilB); (case hX | hK => rfl); (case hk | hm => decide); clear H; (try clear W); intro A1 n1 d1 W hn1 H; obtain rfl := hn1; rw [List.nil_append] at H) | ((with_reducible apply nput_k (x := m) (k := 2) (m := 0 + 8) (l := be 8 x)); (case H => exact H); (case G => exact gives_own (by (with_reducible repeat first | exact mH)) rfl); (case hX | hK => rfl); (case hk | hm => decide); clear H; (try clear W); intro A2 n2 d2 W hn2 H; obtain rfl := hn2) | ((with_reducible apply sumof_k (gives_own List.mem_cons_self rfl)); (case H => exact H); clear H; (try clear W); intro W H) | ((with_reducible apply on_k (l := l)); (case H => exact H); (case G => (repeat (first | assumption | with_reducible apply Gives.cons))); (case hN => rfl); (case hs => exact onF_lt _ _); clear H; (try clear W); intro W H) | ((with_reducible apply nput_k (x := onF (onF 1 (be 8 x ++ be 2 m)) l) (k := 4) (m := 0) (l := [])); (case H => exact H); (case G => exact gives_nilB); (case hX => exact wrap_u64_small (by omega) (by have := onF_lt (onF 1 (be 8 x ++ be 2 m)) l; omega)); (case hK => rfl); (case hk | hm => decide); clear H; (try clear W); intro A3 n3 d3 W hn3 H; obtain rfl := hn3; rw [List.nil_append] at H) | ((with_reducible apply wpl_convB H); (case hx | hw => rfl); (case hm => (with_reducible repeat first | exact Pull.here)); clear H; (try clear W); intro W H) | ((with_reducible apply concat4_k (l1 := recM) (l2 := be 8 x ++ be 2 m) (l3 := be 4 (onF (onF 1 (be 8 x ++ be 2 m)) l)) (l4 := l)); (case H => exact H); (case G => exact gives_blk (by (with_reducible repeat first | exact mH)) rfl (by decide)); (case g1 => exact gives_blkF (cs := [.int .u8 82, .int .u8 69, .int .u8 67, .int .u8 49]) (by (with_reducible repeat first | exact mH | apply mT)) rfl (by decide)); (case g2 => exact gives_own (by (with_reducible repeat first | exact mH | apply mT)) rfl); (case g3 => exact gives_own (by (with_reducible repeat first | exact mH | apply mT)) rfl); (case g4 => (repeat (first | assumption | with_reducible apply Gives.cons))); (case hs => omega); clear H; (try clear W); intro A4 n4 d4 W hn4 H; obtain rfl := hn4) | ((with_reducible apply wpl_copyO H); (case hw | hx | hy => rfl); (case hu => exact Tryz.underlying50); (case hs => exact info_u8s); (case hr => exact gives_own (by (with_reducible repeat first | exact mH)) rfl); (case h1 => exact bvs_oneCell _); (case hm => (with_reducible repeat first | exact Upd.here | apply Upd.there)); clear H; (try clear W); intro W H))
  rw [put_cells hl.out] at H
  exact HK.out _ _ _ (Reord.use H (by ((repeat (with_reducible apply Reord.cons; (case p => (with_reducible repeat first | exact Pull.here | apply Pull.there)))); repeat (first | with_reducible exact Reord.rest | with_reducible apply Reord.drop))))
end
end Go.Proofs.YtdnioigcgggdbaaGreatDoor
set_option linter.unusedVariables false
set_option linter.unusedSimpArgs false
namespace Go.Proofs.YtdnioigcgggdbaaGreatDoor
open Go.RowKit

section
variable {P : Program} {ops : Array Oper} {rest : List Oper} {a : Act} {w : World} {Q : Exit → Act → World → Prop} {L : List Ent} {dst : Option Tmp} {x : Operand} {ty : TypeId} {pos : String} {after : Array Edge} {gd : Option (Nat × Bool)}
theorem run_bstr {src dt e : TypeId} (hs : P.underlying src = some (.slice e)) (he : P.underlying e = some (.int .u8)) (hd : P.underlying dt = some .string) {b o n cap : Nat} {l : List UInt8} (hr : Rd w 1 (some ⟨b, o, none⟩) n cap (bvs l)) :
    (convert src dt (.slice (some ⟨b, o, none⟩) n cap)).run P w = .ok (.string ⟨l.toArray⟩) w := by
  have hl := hr.blen
  have := run_convert_bytes_back (P := P) w src dt e ⟨b, o, none⟩ cap l hs he hd (fun j hj => by
    obtain ⟨b', o', e, hc⟩ := hr.byte (k := j) (by omega)
    injection e with e
    injection e with e1 e2
    subst e1 e2
    rw [show (⟨b, o, none⟩ : Addr).add j = ⟨b, o + j, none⟩ by unfold Addr.add; split <;> simp_all]
    rw [hc, List.getElem?_eq_getElem hj]
    rfl)
  rwa [hl] at this
/-- string(b). -/
theorem wpl_bstr {src dt e : TypeId} (H : Holds w L) (hw : Region.wanted ⟨dst, .convert src dt x, ty, pos, after, gd⟩ (yielded ops a.tmps) = true) {b o n cap : Nat} (hx : a.eval x = .slice (some ⟨b, o, none⟩) n cap)
    (hs : P.underlying src = some (.slice e)) (he : P.underlying e = some (.int .u8)) (hd : P.underlying dt = some .string) {l : List UInt8} (hm : Gives L fun w => Rd w 1 (some ⟨b, o, none⟩) n cap (bvs l))
    (h : wpList P ops Q rest (a.put dst (.string ⟨l.toArray⟩)) w) : wpList P ops Q (⟨dst, .convert src dt x, ty, pos, after, gd⟩ :: rest) a w := by
  refine wpl_run hw (w' := w) (v := .string ⟨l.toArray⟩) ?_ h
  unfold execOp
  simp only [hx, Sem.run_bind, run_bstr hs he hd (hm w H), Sem.run_pure, Result.andThen_ok]
end
section
variable {W : World} {L L' L0 : List Ent} {R : Ending → World → Prop} {A : Option Addr} {b o m c p : Nat} {l : List UInt8}
set_option maxRecDepth 100000 in
set_option maxHeartbeats 1000000 in
theorem st1_k {x y : Value} (H : Holds W L) (hm : Pull (blk p [.slice A m c, x, y] 177) L L0) (k : ∀ w', Holds w' (blk p [.slice A m c, x, y] 177 :: L0) → R (.returned (.bool (decide (64 ≤ m)))) w') :
    Calls Tryz.prog 142 #[.pointer (some ⟨p, 0, none⟩)] W R := by
  have HK := Lib.hid k; clear k
  replace H := H.pull hm
  clear hm
  rw [show decide (64 ≤ m) = decide ((64 : Int) ≤ (m : Int)) from decide_eq_decide.2 (by omega)] at HK
  go_enter Tryz.func142, Tryz.ntmps142
  go_wp2_with (first | ((with_reducible apply wpl_load H); (case hs => exact sc _ rfl); (case hw | hx => rfl); (case hm => (with_reducible repeat first | exact mH)); (case hv => rfl)) )
  exact HK.out _ H
theorem get8 (h : 64 ≤ l.length) : getR (l.drop 4) 8 = (fNum l, 0) := by
  unfold getR
  rw [if_neg (by decide), if_neg (by rw [List.length_drop]; omega)]
  rfl
theorem get2 (h : 64 ≤ l.length) : getR (l.drop 12) 2 = (fMany l, 0) := by
  unfold getR
  rw [if_neg (by decide), if_neg (by rw [List.length_drop]; omega)]
  rfl
theorem nget_v {K : Int} {v : Nat} (hv : getR l K = (v, 0)) (G : Gives L fun w => Rd w 1 A m c (bvs l)) (H : Holds W L) (k : ∀ w', Holds w' L → R (.returned (.tuple #[.int .u64 (v : Nat), .int .i64 0])) w') :
    Calls Tryz.prog 144 #[.slice A m c, .int .i64 K] W R := by
  refine nget_k G H ?_
  rw [hv]
  exact k
theorem fMany_lt (l : List UInt8) : fMany l < 65536 := by
  have := ofBe_lt ((l.drop 12).take 2)
  have h2 : ((l.drop 12).take 2).length ≤ 2 := by rw [List.length_take]; omega
  unfold fMany
  exact Nat.lt_of_lt_of_le this (Nat.pow_le_pow_right (n := 256) (by decide) h2)
set_option maxRecDepth 100000 in
set_option maxHeartbeats 2000000 in
theorem st2_k {x y : Value} (h64 : 64 ≤ m) (G : Gives L0 fun w => Rd w 1 (some ⟨b, o, none⟩) m c (bvs l)) (H : Holds W L) (hm : Pull (blk p [.slice (some ⟨b, o, none⟩) m c, x, y] 177) L L0)
    (k : ∀ w', Holds w' (blk p [.slice (some ⟨b, o, none⟩) m c, .int .u64 (fNum l : Nat), .int .i64 (fMany l : Nat)] 177 :: L0) → R (.returned (.bool (decide (l.take 4 = recM ∧ fMany l ≤ 256)))) w') :
    Calls Tryz.prog 143 #[.pointer (some ⟨p, 0, none⟩)] W R := by
  have HK := Lib.hid k; clear k
  replace H := H.pull hm
  clear hm
  have hl := (G W H.tail).blen
  have hle := (G W H.tail).le
  have Hl := Lib.hid hl
  have e8 := get8 (l := l) (by omega)
  have e2 := get2 (l := l) (by omega)
  have hlt := fMany_lt l
  have g4 : Gives L0 fun w => Rd w 1 (some ⟨b, o + 4, none⟩) (m - 4) (c - 4) (bvs (l.drop 4)) := G.imp fun w h => h.tailB 4 (by omega)
  have g12 : Gives L0 fun w => Rd w 1 (some ⟨b, o + 12, none⟩) (m - 12) (c - 12) (bvs (l.drop 12)) := G.imp fun w h => h.tailB 12 (by omega)
  have g0 : Gives L0 fun w => Rd w 1 (some ⟨b, o, none⟩) 4 c (bvs (l.take 4)) := G.imp fun w h => by
    have := h.midB 0 4 (by omega) (by omega) (by omega)
    simpa using this
  go_enter Tryz.func143, Tryz.ntmps143
  go_wp2_with (first | ((with_reducible apply wpl_load H); (case hs => exact sc _ rfl); (case hw | hx => rfl); (case hm => (with_reducible repeat first | exact mH)); (case hv => rfl)) | ((with_reducible apply wpl_store1 H); (case hs => exact sz_sc _ rfl); (case hw | hx => rfl); (case hy => (first | exact (rfl : _ = Value.int _ _) )); (case hm => (with_reducible repeat first | exact Upd.here)); (case h1 => rfl); (case hk => exact Nat.le_of_ble_eq_true rfl); clear H; (try clear W); intro W H; simp only [setL, List.set_cons_zero, List.set_cons_succ] at H) | ((first | ((with_reducible apply nget_v e8 g4.cons); (case H => exact H)) | ((with_reducible apply nget_v e2 g12.cons); (case H => exact H))); clear H; (try clear W); intro W H) | ((with_reducible apply wpl_bstr H); (case hw | hx => rfl); (case hs => exact Tryz.underlying50); (case he => exact Tryz.underlying5); (case hd => exact Tryz.underlying9); (case hm => exact g0.cons)))
  · have h4 : l.take 4 = recM := ‹List.take 4 l = [82, 69, 67, 49]›
    have := HK.out _ H
    rw [show decide (l.take 4 = recM ∧ fMany l ≤ 256) = decide ((fMany l : Int) ≤ 256) from decide_eq_decide.2 ⟨fun h => by omega, fun h => ⟨h4, by omega⟩⟩] at this
    exact this
  · have h4 : ¬ l.take 4 = recM := ‹¬ List.take 4 l = [82, 69, 67, 49]›
    have := HK.out _ H
    rw [decide_eq_false (fun h => h4 h.1)] at this
    exact this
end
end Go.Proofs.YtdnioigcgggdbaaGreatDoor
