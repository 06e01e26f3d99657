/-
  frames: the first two steps of a check.
-/
import Derived.Test.YtdnioigcgggdbaaFr7
import Derived.Laws.IdiomStrings
set_option linter.unusedVariables false
set_option linter.unusedSimpArgs false
namespace Go.Proofs.Ytdnioigcgggdbaa
open Go.RowKit

section
variable {P : Program} {ops : Array Oper} {rest : List Oper} {a : Act} {w : World} {Q : Exit → Act → World → Prop} {L : List Ent} {dst : Option Tmp} {x : Operand} {ty : TypeId} {pos : String} {after : Array Edge} {gd : Option (Nat × Bool)}
theorem run_bstr {src dt e : TypeId} (hs : P.underlying src = some (.slice e)) (he : P.underlying e = some (.int .u8)) (hd : P.underlying dt = some .string) {b o n cap : Nat} {l : List UInt8} (hr : Rd w 1 (some ⟨b, o, none⟩) n cap (bvs l)) :
    (convert src dt (.slice (some ⟨b, o, none⟩) n cap)).run P w = .ok (.string ⟨l.toArray⟩) w := by
  have hl := hr.blen
  have := run_convert_bytes_back (P := P) w src dt e ⟨b, o, none⟩ cap l hs he hd (fun j hj => by
    obtain ⟨b', o', e, hc⟩ := hr.byte (k := j) (by omega)
    injection e with e
    injection e with e1 e2
    subst e1 e2
    rw [show (⟨b, o, none⟩ : Addr).add j = ⟨b, o + j, none⟩ by unfold Addr.add; split <;> simp_all]
    rw [hc, List.getElem?_eq_getElem hj]
    rfl)
  rwa [hl] at this
/-- string(b). -/
theorem wpl_bstr {src dt e : TypeId} (H : Holds w L) (hw : Region.wanted ⟨dst, .convert src dt x, ty, pos, after, gd⟩ (yielded ops a.tmps) = true) {b o n cap : Nat} (hx : a.eval x = .slice (some ⟨b, o, none⟩) n cap)
    (hs : P.underlying src = some (.slice e)) (he : P.underlying e = some (.int .u8)) (hd : P.underlying dt = some .string) {l : List UInt8} (hm : Gives L fun w => Rd w 1 (some ⟨b, o, none⟩) n cap (bvs l))
    (h : wpList P ops Q rest (a.put dst (.string ⟨l.toArray⟩)) w) : wpList P ops Q (⟨dst, .convert src dt x, ty, pos, after, gd⟩ :: rest) a w := by
  refine wpl_run hw (w' := w) (v := .string ⟨l.toArray⟩) ?_ h
  unfold execOp
  simp only [hx, Sem.run_bind, run_bstr hs he hd (hm w H), Sem.run_pure, Result.andThen_ok]
end
section
variable {W : World} {L L' L0 : List Ent} {R : Ending → World → Prop} {A : Option Addr} {b o m c p : Nat} {l : List UInt8}
set_option maxRecDepth 100000 in
set_option maxHeartbeats 1000000 in
theorem st1_k {x y : Value} (H : Holds W L) (hm : Pull (blk p [.slice A m c, x, y] 115) L L0) (k : ∀ w', Holds w' (blk p [.slice A m c, x, y] 115 :: L0) → R (.returned (.bool (decide (64 ≤ m)))) w') :
    Calls Try.prog 71 #[.pointer (some ⟨p, 0, none⟩)] W R := by
  have HK := Lib.hid k; clear k
  replace H := H.pull hm
  clear hm
  rw [show decide (64 ≤ m) = decide ((64 : Int) ≤ (m : Int)) from decide_eq_decide.2 (by omega)] at HK
  go_enter Try.func71, Try.ntmps71
  go_wp2_with (first | go_big_skip | ((with_reducible refine wpl_absorb H ?_); clear H; (first  | generalize W.heap.size = q0); (try clear W); intro W H) | ((with_reducible refine wpl_drew H ?_); clear H; (try clear W); intro W H) | ((with_reducible refine wpl_drewN H ?_); clear H; (try clear W); intro W H) | ((with_reducible apply wpl_load H); (case hs => exact sc _ rfl); (case hw => rfl); (case hx => rfl); (case hm => (repeat (first | with_reducible exact mH | with_reducible assumption | with_reducible apply mT))); (case hv => rfl)) | ((with_reducible apply wpl_loadA H); (case hs => exact ag _ _ rfl); (case hw => rfl); (case hx => rfl); (case hm => (repeat (first | with_reducible exact mH | with_reducible assumption | with_reducible apply mT))); (case hv => rfl); (case hl => rfl); (try simp only [List.drop_zero, List.drop_succ_cons, List.take_succ_cons, List.take_zero, List.take_nil])) | ((with_reducible apply wpl_loadB H); (case hs => exact sc _ rfl); (case hw => rfl); (case hx => rfl); (case hm => (first | assumption | (apply gives_own; (case h => (repeat (first | with_reducible exact mH | with_reducible assumption | with_reducible apply mT))); (case hn => rfl)) | (apply gives_blk; (case h => (repeat (first | with_reducible exact mH | with_reducible assumption | with_reducible apply mT))); (case hn => rfl); (case hl => omega)) | (repeat (first | assumption | with_reducible apply Gives.cons)))); (case hj => first | assumption | omega)) | ((with_reducible apply wpl_loadB0 H); (case hs => exact sc _ rfl); (case hw => rfl); (case hx => rfl); (case hm => (first | assumption | (apply gives_own; (case h => (repeat (first | with_reducible exact mH | with_reducible assumption | with_reducible apply mT))); (case hn => rfl)) | (apply gives_blk; (case h => (repeat (first | with_reducible exact mH | with_reducible assumption | with_reducible apply mT))); (case hn => rfl); (case hl => omega)) | (repeat (first | assumption | with_reducible apply Gives.cons)))); (case hj => first | assumption | omega)) | ((with_reducible apply wpl_storeO H); (case hs => exact sz_sc _ rfl); (case hw => rfl); (case hx => rfl); (case hy => (first | exact (rfl : _ = Value.int _ _) | exact (rfl : _ = Value.bool _) | exact (rfl : _ = Value.slice _ _ _) | exact (rfl : _ = Value.pointer _) | exact (rfl : _ = Value.string _) | rfl)); (case h1 => rfl); (case hm => (repeat (first | with_reducible exact Upd.here | with_reducible assumption | with_reducible apply Upd.there))); (case hj => first | assumption | omega); clear H; (try clear W); intro W H) | ((with_reducible apply wpl_app H); (case ht => (first | exact Try.underlying22 | exact Try.underlying25 | exact Try.underlying28 | exact Try.underlying37 | exact Try.underlying38 | exact Try.underlying42 | exact Try.underlying69 | exact Try.underlying72 | exact Try.underlying119 | exact Try.underlying122 | exact Try.underlying141 | exact Try.underlying171)); (case hinfo => (first | exact inf_3 | exact inf_4 | exact inf_5 | exact inf_22 | exact inf_23 | exact inf_29 | exact inf_86 | exact inf_90 | exact inf_174)); (case hw => rfl); (case hs => rfl); (case hx => rfl); (case hm => (repeat (first | with_reducible exact Pull.here | with_reducible apply Pull.there))); (case hzs => rfl); (case hsz => decide); (case hr => (first | assumption | (apply gives_own; (case h => (repeat (first | with_reducible exact mH | with_reducible assumption | with_reducible apply mT))); (case hn => rfl)) | (apply gives_blk; (case h => (repeat (first | with_reducible exact mH | with_reducible assumption | with_reducible apply mT))); (case hn => rfl); (case hl => omega)) | (repeat (first | assumption | with_reducible apply Gives.cons)))); (case h1 => first | exact bvs_oneCell _ | (intro u hu; obtain rfl := List.mem_singleton.1 hu; rfl)); (case h63 => (simp only [maxLen]; omega)); (case hbytes => omega); clear H; (try clear W); intro A1 n1 c1 W hn H hle1 htop1; obtain rfl := hn.out; clear hn) | ((with_reducible apply wpl_store1 H); (case hs => exact sz_sc _ rfl); (case hw => rfl); (case hx => rfl); (case hy => (first | exact (rfl : _ = Value.int _ _) | exact (rfl : _ = Value.bool _) | exact (rfl : _ = Value.slice _ _ _) | exact (rfl : _ = Value.pointer _) | exact (rfl : _ = Value.string _) | rfl)); (case hm => (repeat (first | with_reducible exact Upd.here | with_reducible assumption | with_reducible apply Upd.there))); (case h1 => rfl); (case hk => exact Nat.le_of_ble_eq_true rfl); clear H; (try clear W); intro W H; simp only [setL, List.set_cons_zero, List.set_cons_succ] at H) | ((with_reducible apply wpl_store H); (case hw => rfl); (case hx => rfl); (case hy => rfl); (case hm => (repeat (first | with_reducible exact Upd.here | with_reducible assumption | with_reducible apply Upd.there))); (case hs => exact sz_ag _ _ rfl); (case h1 => rfl); (case hk => exact Nat.le_of_ble_eq_true rfl); clear H; (try clear W); intro W H; first | rw [setL_whole rfl] at H | simp only [setL, List.set_cons_zero, List.set_cons_succ] at H))
  exact HK.out _ H
theorem get8 (h : 64 ≤ l.length) : getR (l.drop 4) 8 = (fNum l, 0) := by
  unfold getR
  rw [if_neg (by decide), if_neg (by rw [List.length_drop]; omega)]
  rfl
theorem get2 (h : 64 ≤ l.length) : getR (l.drop 12) 2 = (fMany l, 0) := by
  unfold getR
  rw [if_neg (by decide), if_neg (by rw [List.length_drop]; omega)]
  rfl
theorem nget_v {K : Int} {v : Nat} (hv : getR l K = (v, 0)) (G : Gives L fun w => Rd w 1 A m c (bvs l)) (H : Holds W L) (k : ∀ w', Holds w' L → R (.returned (.tuple #[.int .u64 (v : Nat), .int .i64 0])) w') :
    Calls Try.prog 73 #[.slice A m c, .int .i64 K] W R := by
  refine nget_k G H ?_
  rw [hv]
  exact k
theorem fMany_lt (l : List UInt8) : fMany l < 65536 := by
  have := ofBe_lt ((l.drop 12).take 2)
  have h2 : ((l.drop 12).take 2).length ≤ 2 := by rw [List.length_take]; omega
  unfold fMany
  exact Nat.lt_of_lt_of_le this (Nat.pow_le_pow_right (n := 256) (by decide) h2)
set_option maxRecDepth 100000 in
set_option maxHeartbeats 2000000 in
theorem st2_k {x y : Value} (h64 : 64 ≤ m) (G : Gives L0 fun w => Rd w 1 (some ⟨b, o, none⟩) m c (bvs l)) (H : Holds W L) (hm : Pull (blk p [.slice (some ⟨b, o, none⟩) m c, x, y] 115) L L0)
    (k : ∀ w', Holds w' (blk p [.slice (some ⟨b, o, none⟩) m c, .int .u64 (fNum l : Nat), .int .i64 (fMany l : Nat)] 115 :: L0) → R (.returned (.bool (decide (l.take 4 = recM ∧ fMany l ≤ 256)))) w') :
    Calls Try.prog 72 #[.pointer (some ⟨p, 0, none⟩)] W R := by
  have HK := Lib.hid k; clear k
  replace H := H.pull hm
  clear hm
  have hl := (G W H.tail).blen
  have hle := (G W H.tail).le
  have Hl := Lib.hid hl
  have e8 := get8 (l := l) (by omega)
  have e2 := get2 (l := l) (by omega)
  have hlt := fMany_lt l
  have g4 : Gives L0 fun w => Rd w 1 (some ⟨b, o + 4, none⟩) (m - 4) (c - 4) (bvs (l.drop 4)) := G.imp fun w h => h.tailB 4 (by omega)
  have g12 : Gives L0 fun w => Rd w 1 (some ⟨b, o + 12, none⟩) (m - 12) (c - 12) (bvs (l.drop 12)) := G.imp fun w h => h.tailB 12 (by omega)
  have g0 : Gives L0 fun w => Rd w 1 (some ⟨b, o, none⟩) 4 c (bvs (l.take 4)) := G.imp fun w h => by
    have := h.midB 0 4 (by omega) (by omega) (by omega)
    simpa using this
  go_enter Try.func72, Try.ntmps72
  go_wp2_with (first | go_big_skip | ((with_reducible refine wpl_absorb H ?_); clear H; (first  | generalize W.heap.size = q0); (try clear W); intro W H) | ((with_reducible refine wpl_drew H ?_); clear H; (try clear W); intro W H) | ((with_reducible refine wpl_drewN H ?_); clear H; (try clear W); intro W H) | ((with_reducible apply wpl_load H); (case hs => exact sc _ rfl); (case hw => rfl); (case hx => rfl); (case hm => (repeat (first | with_reducible exact mH | with_reducible assumption | with_reducible apply mT))); (case hv => rfl)) | ((with_reducible apply wpl_loadA H); (case hs => exact ag _ _ rfl); (case hw => rfl); (case hx => rfl); (case hm => (repeat (first | with_reducible exact mH | with_reducible assumption | with_reducible apply mT))); (case hv => rfl); (case hl => rfl); (try simp only [List.drop_zero, List.drop_succ_cons, List.take_succ_cons, List.take_zero, List.take_nil])) | ((with_reducible apply wpl_loadB H); (case hs => exact sc _ rfl); (case hw => rfl); (case hx => rfl); (case hm => (first | assumption | (apply gives_own; (case h => (repeat (first | with_reducible exact mH | with_reducible assumption | with_reducible apply mT))); (case hn => rfl)) | (apply gives_blk; (case h => (repeat (first | with_reducible exact mH | with_reducible assumption | with_reducible apply mT))); (case hn => rfl); (case hl => omega)) | (repeat (first | assumption | with_reducible apply Gives.cons)))); (case hj => first | assumption | omega)) | ((with_reducible apply wpl_loadB0 H); (case hs => exact sc _ rfl); (case hw => rfl); (case hx => rfl); (case hm => (first | assumption | (apply gives_own; (case h => (repeat (first | with_reducible exact mH | with_reducible assumption | with_reducible apply mT))); (case hn => rfl)) | (apply gives_blk; (case h => (repeat (first | with_reducible exact mH | with_reducible assumption | with_reducible apply mT))); (case hn => rfl); (case hl => omega)) | (repeat (first | assumption | with_reducible apply Gives.cons)))); (case hj => first | assumption | omega)) | ((with_reducible apply wpl_storeO H); (case hs => exact sz_sc _ rfl); (case hw => rfl); (case hx => rfl); (case hy => (first | exact (rfl : _ = Value.int _ _) | exact (rfl : _ = Value.bool _) | exact (rfl : _ = Value.slice _ _ _) | exact (rfl : _ = Value.pointer _) | exact (rfl : _ = Value.string _) | rfl)); (case h1 => rfl); (case hm => (repeat (first | with_reducible exact Upd.here | with_reducible assumption | with_reducible apply Upd.there))); (case hj => first | assumption | omega); clear H; (try clear W); intro W H) | ((with_reducible apply wpl_app H); (case ht => (first | exact Try.underlying22 | exact Try.underlying25 | exact Try.underlying28 | exact Try.underlying37 | exact Try.underlying38 | exact Try.underlying42 | exact Try.underlying69 | exact Try.underlying72 | exact Try.underlying119 | exact Try.underlying122 | exact Try.underlying141 | exact Try.underlying171)); (case hinfo => (first | exact inf_3 | exact inf_4 | exact inf_5 | exact inf_22 | exact inf_23 | exact inf_29 | exact inf_86 | exact inf_90 | exact inf_174)); (case hw => rfl); (case hs => rfl); (case hx => rfl); (case hm => (repeat (first | with_reducible exact Pull.here | with_reducible apply Pull.there))); (case hzs => rfl); (case hsz => decide); (case hr => (first | assumption | (apply gives_own; (case h => (repeat (first | with_reducible exact mH | with_reducible assumption | with_reducible apply mT))); (case hn => rfl)) | (apply gives_blk; (case h => (repeat (first | with_reducible exact mH | with_reducible assumption | with_reducible apply mT))); (case hn => rfl); (case hl => omega)) | (repeat (first | assumption | with_reducible apply Gives.cons)))); (case h1 => first | exact bvs_oneCell _ | (intro u hu; obtain rfl := List.mem_singleton.1 hu; rfl)); (case h63 => (simp only [maxLen]; omega)); (case hbytes => omega); clear H; (try clear W); intro A1 n1 c1 W hn H hle1 htop1; obtain rfl := hn.out; clear hn) | ((with_reducible apply wpl_store1 H); (case hs => exact sz_sc _ rfl); (case hw => rfl); (case hx => rfl); (case hy => (first | exact (rfl : _ = Value.int _ _) | exact (rfl : _ = Value.bool _) | exact (rfl : _ = Value.slice _ _ _) | exact (rfl : _ = Value.pointer _) | exact (rfl : _ = Value.string _) | rfl)); (case hm => (repeat (first | with_reducible exact Upd.here | with_reducible assumption | with_reducible apply Upd.there))); (case h1 => rfl); (case hk => exact Nat.le_of_ble_eq_true rfl); clear H; (try clear W); intro W H; simp only [setL, List.set_cons_zero, List.set_cons_succ] at H) | ((with_reducible apply wpl_store H); (case hw => rfl); (case hx => rfl); (case hy => rfl); (case hm => (repeat (first | with_reducible exact Upd.here | with_reducible assumption | with_reducible apply Upd.there))); (case hs => exact sz_ag _ _ rfl); (case h1 => rfl); (case hk => exact Nat.le_of_ble_eq_true rfl); clear H; (try clear W); intro W H; first | rw [setL_whole rfl] at H | simp only [setL, List.set_cons_zero, List.set_cons_succ] at H) | ((first | ((with_reducible apply nget_v e8 g4.cons); (case H => exact H)) | ((with_reducible apply nget_v e2 g12.cons); (case H => exact H))); clear H; (try clear W); intro W H) | ((with_reducible apply wpl_bstr H); (case hw => rfl); (case hx => rfl); (case hs => exact Try.underlying22); (case he => exact Try.underlying5); (case hd => exact Try.underlying9); (case hm => exact g0.cons)))
  · have h4 : l.take 4 = recM := ‹List.take 4 l = [82, 69, 67, 49]›
    have := HK.out _ H
    rw [show decide (l.take 4 = recM ∧ fMany l ≤ 256) = decide ((fMany l : Int) ≤ 256) from decide_eq_decide.2 ⟨fun h => by omega, fun h => ⟨h4, by omega⟩⟩] at this
    exact this
  · have h4 : ¬ l.take 4 = recM := ‹¬ List.take 4 l = [82, 69, 67, 49]›
    have := HK.out _ H
    rw [decide_eq_false (fun h => h4 h.1)] at this
    exact this
end
end Go.Proofs.Ytdnioigcgggdbaa
