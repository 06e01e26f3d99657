/-
  disks: contracts of Read, Write and Turn.
-/
import Derived.Test.YtdnioigcgggdbaaGreatDoorDkM1
set_option linter.unusedVariables false
set_option linter.unusedSimpArgs false
namespace Go.Proofs.YtdnioigcgggdbaaGreatDoor
open Go.RowKit

theorem flat_at : ∀ {l : List (List UInt8)}, (∀ s ∈ l, s.length = 64) → ∀ (j : Nat) (s : List UInt8), l[j]? = some s → (l.flatten.drop (j * 64)).take 64 = s
  | [], _, j, s, h => by simp at h
  | t :: l, hl, 0, s, h => by
    simp at h
    subst h
    rw [Nat.zero_mul, List.drop_zero, List.flatten_cons, List.take_left' (hl _ (.head _))]
  | t :: l, hl, j + 1, s, h => by
    rw [List.flatten_cons, Nat.succ_mul, Nat.add_comm, ← List.drop_drop, List.drop_left' (hl _ (.head _))]
    exact flat_at (fun x hx => hl x (.tail _ hx)) j s (by simpa using h)
theorem flat_set : ∀ {l : List (List UInt8)}, (∀ s ∈ l, s.length = 64) → ∀ (j : Nat) (s : List UInt8), j < l.length → s.length = 64 → l.flatten.take (j * 64) ++ s ++ l.flatten.drop (j * 64 + 64) = (l.set j s).flatten
  | [], _, j, s, h, _ => by simp at h
  | t :: l, hl, 0, s, h, hs => by
    rw [Nat.zero_mul, List.take_zero, List.nil_append, Nat.zero_add, List.flatten_cons, List.drop_left' (hl _ (.head _)), List.set_cons_zero, List.flatten_cons]
  | t :: l, hl, j + 1, s, h, hs => by
    have h64 := hl _ (.head _)
    rw [List.set_cons_succ, List.flatten_cons, List.flatten_cons, ← flat_set (fun x hx => hl x (.tail _ hx)) j s (by simpa using h) hs]
    rw [show (j + 1) * 64 = t.length + j * 64 from by rw [h64]; omega, List.take_length_add_append, Nat.add_assoc, List.drop_length_add_append]
    simp
theorem setL_sec {l : List (List UInt8)} (hl : ∀ s ∈ l, s.length = 64) {j : Nat} {s : List UInt8} (hj : j < l.length) (hs : s.length = 64) : setL (bvs l.flatten) (j * 64) (bvs s) = bvs (l.set j s).flatten := by
  have h := flat_len hl
  rw [setL_eq _ _ _ (by rw [bvs_length, hs, h]; have : (j + 1) * 64 ≤ l.length * 64 := Nat.mul_le_mul_right _ hj; omega), ← flat_set hl j s hj hs, bvs_append, bvs_append, bvs_take, bvs_drop, bvs_length, hs]
section
variable {W : World} {L L' L0 : List Ent} {R : Ending → World → Prop} {g : Nat} {v : Dv} {d : Dd}
theorem gives_sec {b n c j : Nat} {l : List (List UInt8)} {s : List UInt8} (h : ownE 97 64 (.slice (some ⟨b, 0, none⟩) n c) n (bvs l.flatten) ∈ L) (hl : ∀ s ∈ l, s.length = 64) (hn : l.length = n) (hs : l[j]? = some s) : Gives L fun w => Rd w 1 (some ⟨b, j * 64, none⟩) 64 64 (bvs s) := fun w H => by
  have hj : j < l.length := (List.getElem?_eq_some_iff.1 hs).1
  have r := gives_own h rfl w H
  have h64 := hl s (List.mem_of_getElem? hs)
  obtain ⟨b', o', e, hc⟩ := r.at_ (by omega)
  injection e with e
  injection e with e1 e2
  subst e1 e2
  refine ⟨Nat.le_refl _, by simp [maxLen], by rw [bvs_length]; omega, (fun h => by cases h), fun _ => ⟨b, j * 64, rfl, fun i hi => ?_⟩⟩
  have hlt : j * 64 + i < n * 64 := by have : (j + 1) * 64 ≤ n * 64 := Nat.mul_le_mul_right _ (by omega); omega
  have := hc (j * 64 + i) hlt
  rw [Nat.zero_add] at this
  rw [this, ← flat_at hl j s hs, bvs_take, bvs_drop, List.getElem?_take, if_pos (by omega), List.getElem?_drop]
set_option maxRecDepth 100000 in
set_option maxHeartbeats 1000000 in
theorem read_no (n : Int) (hn : n < 0 ∨ (d.su.length : Int) ≤ n) (H : Holds W L) (hm : Pull (dkE g v d) L L0) (k : ∀ w', Holds w' (dkE g v d :: L0) → R (.returned (.tuple #[.slice none 0 0, .int .i64 1])) w') :
    Calls Tryz.prog 60 #[.pointer (some ⟨g, 0, none⟩), .int .i64 n] W R := by
  obtain ⟨ho, H⟩ := dk_open (H.pull hm)
  clear hm
  have HK := Lib.hid k; clear k
  obtain ⟨gs, cs, gn, cn, aw, m, cw⟩ := v; obtain ⟨su, no, wa, lf, bl⟩ := d; have h0 := ho.n0; have h1 := ho.n1; simp only at h0 h1; have Ho := Lib.hid ho; clear ho; simp only at H
  simp only at hn
  rcases hn with hn | hn
  · go_enter Tryz.func60, Tryz.ntmps60
    go_wp2_with (first | ((with_reducible apply none_no H); (case hm => (with_reducible repeat first | exact mH)); (case hn => assumption); clear H; (try clear W); intro W H))
    exact HK.out _ (dk_shut _ _ H Ho.out)
  · by_cases h3 : n < 0
    · exact absurd hn (by omega)
    have h2 : decide (n < 0) = false := by simp; omega
    go_enter Tryz.func60, Tryz.ntmps60
    go_wp2_with (first | ((with_reducible apply wpl_load H); (case hs => exact sc _ rfl); (case hw | hx => rfl); (case hm => (with_reducible repeat first | exact mH)); (case hv => rfl)) | ((with_reducible apply none_no H); (case hm => (with_reducible repeat first | exact mH)); (case hn => assumption); clear H; (try clear W); intro W H))
    exact HK.out _ (dk_shut _ _ H Ho.out)
set_option maxRecDepth 100000 in
set_option maxHeartbeats 1000000 in
theorem read_k (n : Nat) (s : List UInt8) (hs : d.no[n]? = some s) (H : Holds W L) (hm : Pull (dkE g v d) L L0) (k : ∀ b w', Holds w' (ownE 5 1 (.slice (some ⟨b, 0, none⟩) 64 64) 64 (bvs s) :: dkE g v d :: L0) → R (.returned (.tuple #[.slice (some ⟨b, 0, none⟩) 64 64, .int .i64 0])) w') :
    Calls Tryz.prog 60 #[.pointer (some ⟨g, 0, none⟩), .int .i64 n] W R := by
  obtain ⟨ho, H⟩ := dk_open (H.pull hm)
  clear hm
  have HK := Lib.hid k; clear k
  have hs64 := ho.nl s (List.mem_of_getElem? hs)
  have hnn : n < d.su.length := by rw [← ho.nn]; exact (List.getElem?_eq_some_iff.1 hs).1
  have GS := fun (L : List Ent) (h : ownE 97 64 (.slice (some ⟨v.gn, 0, none⟩) d.su.length v.cn) d.su.length (bvs d.no.flatten) ∈ L) => gives_sec h ho.nl ho.nn hs
  have Hgs := Lib.hid GS
  obtain ⟨gs, cs, gn, cn, aw, m, cw⟩ := v; obtain ⟨su, no, wa, lf, bl⟩ := d; have h0 := ho.n0; have h1 := ho.n1; simp only at h0 h1; have Ho := Lib.hid ho; clear ho; simp only at H
  simp only at hs hnn Hgs
  have h2 : ¬ (su.length : Int) ≤ n := by omega
  have h3 : (n : Int) < su.length := by omega
  have h4 : decide ((n : Int) < 0) = false := by simp
  have Hs := Lib.hid hs
  have Hs64 := Lib.hid hs64
  clear hs hs64 GS
  go_enter Tryz.func60, Tryz.ntmps60
  go_wp2_with (first | ((with_reducible apply wpl_load H); (case hs => exact sc _ rfl); (case hw | hx => rfl); (case hm => (with_reducible repeat first | exact mH | apply mT)); (case hv => rfl)) | ((with_reducible apply none_no H); (case hm => (with_reducible repeat first | exact mH)); (case hn => assumption); clear H; (try clear W); intro W H) | ((with_reducible apply wpl_make1 H 64 64); (case ht => exact Tryz.underlying50); (case hinfo => exact inf_5); (case hw | hl => rfl); (case hc | hN => rfl); (case hC | hz1 => rfl); (case hnc | hb | h63 => omega); (case hmx => (simp only [maxLen]; omega)); clear H; (try clear W); intro q1 W H) | ((with_reducible apply wpl_copyO (size := 1) (elem := 5) H); (case hs => kernel_rfl); (case hu => exact Tryz.underlying50); (case hw | hx | hy => rfl); (case hr => (apply Hgs.out; (with_reducible repeat first | exact mH | apply mT))); (case h1 => exact bvs_oneCell _); (case hm => (with_reducible repeat first | exact Upd.here)); clear H; (try clear W); intro W H))
  have e : setL (List.replicate 64 (Value.int IntKind.u8 0)) 0 (List.take (Nat.min 64 64 * 1) (bvs s)) = bvs s := by
    rw [show Nat.min 64 64 * 1 = 64 from rfl, List.take_of_length_le (by rw [bvs_length, Hs64.out]; exact Nat.le_refl _), setL_all (by rw [bvs_length, Hs64.out]; rfl)]
  rw [e] at H
  have H2 := dk_shut (g := g) ⟨gs, cs, gn, cn, aw, m, cw⟩ ⟨su, no, wa, lf, bl⟩ (Reord.use H (by ((repeat (with_reducible apply Reord.cons; (case p => (with_reducible repeat first | exact Pull.here | apply Pull.there)))); repeat (with_reducible exact Reord.rest)))) Ho.out
  exact HK.out _ _ (Reord.use H2 (by ((repeat (with_reducible apply Reord.cons; (case p => (with_reducible repeat first | exact Pull.here | apply Pull.there)))); repeat (with_reducible exact Reord.rest))))
/-- a sector out of bytes. -/
def padS (b : List UInt8) : List UInt8 := b ++ List.replicate (64 - b.length) 0
theorem padS_len {b : List UInt8} (h : b.length ≤ 64) : (padS b).length = 64 := by unfold padS; rw [List.length_append, List.length_replicate]; omega
def Dd.write (d : Dd) (N : Int) (b : List UInt8) : Dd × Int :=
  if N < 0 ∨ (d.su.length : Int) ≤ N ∨ 64 < b.length then (d, 1)
  else if spentB d.lf d.bl then (d.spend, 9)
  else (⟨d.su, d.no.set N.toNat (padS b), d.wa ++ [(N.toNat, padS b)], spentL d.lf d.bl, false⟩, 0)
set_option maxRecDepth 100000 in
set_option maxHeartbeats 1000000 in
theorem write_no {A : Option Addr} {m c : Nat} (N : Int) (hn : N < 0 ∨ (d.su.length : Int) ≤ N ∨ 64 < m) (hc : c ≤ 9223372036854775807) (hmc : m ≤ c) (H : Holds W L) (hm : Pull (dkE g v d) L L0) (k : ∀ w', Holds w' (dkE g v d :: L0) → R (.returned (.int .i64 1)) w') :
    Calls Tryz.prog 18 #[.pointer (some ⟨g, 0, none⟩), .int .i64 N, .slice A m c] W R := by
  obtain ⟨ho, H⟩ := dk_open (H.pull hm)
  clear hm
  have HK := Lib.hid k; clear k
  obtain ⟨gs, cs, gn, cn, aw, mw, cw⟩ := v; obtain ⟨su, no, wa, lf, bl⟩ := d; have h0 := ho.n0; have h1 := ho.n1; simp only at h0 h1; have Ho := Lib.hid ho; clear ho; simp only at H
  simp only at hn
  by_cases c1 : N < 0
  · clear hn
    go_enter Tryz.func18, Tryz.ntmps18
    go_wp2_with (first | ((with_reducible apply none_no H); (case hm => (with_reducible repeat first | exact mH)); (case hn => assumption); clear H; (try clear W); intro W H))
    exact HK.out _ (dk_shut _ _ H Ho.out)
  · have d1 : decide (N < 0) = false := by simp; omega
    by_cases c2 : (su.length : Int) ≤ N
    · clear hn
      go_enter Tryz.func18, Tryz.ntmps18
      go_wp2_with (first | ((with_reducible apply wpl_load H); (case hs => exact sc _ rfl); (case hw | hx => rfl); (case hm => (with_reducible repeat first | exact mH)); (case hv => rfl)) | ((with_reducible apply none_no H); (case hm => (with_reducible repeat first | exact mH)); (case hn => assumption); clear H; (try clear W); intro W H))
      exact HK.out _ (dk_shut _ _ H Ho.out)
    · have c3 : (64 : Int) < m := by omega
      have d2 : decide ((su.length : Int) ≤ N) = false := by simp; omega
      clear hn
      go_enter Tryz.func18, Tryz.ntmps18
      go_wp2_with (first | ((with_reducible apply wpl_load H); (case hs => exact sc _ rfl); (case hw | hx => rfl); (case hm => (with_reducible repeat first | exact mH)); (case hv => rfl)) | ((with_reducible apply none_no H); (case hm => (with_reducible repeat first | exact mH)); (case hn => assumption); clear H; (try clear W); intro W H))
      exact HK.out _ (dk_shut _ _ H Ho.out)
set_option maxRecDepth 100000 in
set_option maxHeartbeats 1000000 in
theorem write_spent {A : Option Addr} {m c : Nat} (N : Nat) (hn : N < d.su.length) (hm64 : m ≤ 64) (hs : spentB d.lf d.bl = true) (hc : c ≤ 9223372036854775807) (hmc : m ≤ c) (H : Holds W L) (hm : Pull (dkE g v d) L L0) (k : ∀ w', Holds w' (dkE g v d.spend :: L0) → R (.returned (.int .i64 9)) w') :
    Calls Tryz.prog 18 #[.pointer (some ⟨g, 0, none⟩), .int .i64 N, .slice A m c] W R := by
  obtain ⟨ho, H⟩ := dk_open (H.pull hm)
  clear hm
  have HK := Lib.hid k; clear k
  obtain ⟨gs, cs, gn, cn, aw, mw, cw⟩ := v
  have h0 := ho.n0
  have h1 := ho.l1
  have h2 := ho.l2
  have hb := spentL_le (bl := d.bl) h1 h2
  have Hsp : Hid (DOk ⟨gs, cs, gn, cn, aw, mw, cw⟩ d.spend) := Lib.hid ⟨ho.n0, ho.n1, ho.nn, ho.sl, ho.nl, ho.wl, ho.m, hb.1, hb.2⟩
  have Hs := Lib.hid hs
  have d1 : decide ((N : Int) < 0) = false := by simp
  have d2 : decide ((d.su.length : Int) ≤ N) = false := by simp; omega
  have d3 : decide ((64 : Int) < m) = false := by simp; omega
  clear ho hb hs
  go_enter Tryz.func18, Tryz.ntmps18
  go_wp2_with (first | ((with_reducible apply wpl_load H); (case hs => exact sc _ rfl); (case hw | hx => rfl); (case hm => (with_reducible repeat first | exact mH)); (case hv => rfl)) | ((with_reducible apply none_no H); (case hm => (with_reducible repeat first | exact mH)); (case hn => assumption); clear H; (try clear W); intro W H) | ((with_reducible apply spent_k H); (case h1 => assumption); (case h2 => assumption); (case hm => exact Upd.here); clear H; (try clear W); intro W H; replace H := dk_shut (g := g) ⟨gs, cs, gn, cn, aw, mw, cw⟩ d.spend H Hsp.out; rw [Hs.out]))
  exact HK.out _ H
def wZ : List Value := List.replicate 64 (Value.int .u8 0)
theorem pad_copy {N : Nat} {b : List UInt8} {m : Nat} (hb : b.length = m) (hm : m ≤ 64) : setL (Value.int .i64 N :: wZ) 1 (List.take (Nat.min m 64 * 1) (bvs b)) = Value.int .i64 N :: bvs (padS b) := by
  have e : Nat.min m 64 = m := Nat.min_eq_left hm
  unfold wZ
  rw [e, Nat.mul_one, List.take_of_length_le (by rw [bvs_length]; omega), setL_eq _ _ _ (by rw [bvs_length]; simp; omega)]
  rw [show 1 + (bvs b).length = (m) + 1 from by rw [bvs_length]; omega]
  simp only [List.take_succ_cons, List.take_zero, List.drop_succ_cons, List.drop_replicate]
  unfold padS
  rw [bvs_append, hb, show bvs (List.replicate (64 - m) 0) = List.replicate (64 - m) (Value.int .u8 0) from by unfold bvs; rw [List.map_replicate]; rfl]
  simp
theorem hz_wr (x : Value) : setL (x :: wZ) (0 + 1) wZ = x :: wZ := by
  rw [setL_eq _ _ _ (by simp [wZ])]
  simp [wZ]
theorem gives_blk1 {L : List Ent} {b n : Nat} {cs : List Value} {T : TypeId} (h : blk b cs T ∈ L) (hn : cs.length = n) : Gives L fun w => Rd w n (some ⟨b, 0, none⟩) 1 1 cs := fun w H =>
  ⟨Nat.le_refl _, by simp only [maxLen]; omega, by omega, (fun h => by cases h), fun _ => ⟨b, 0, rfl, fun j _ => by rw [cell_of_row w b (0 + j) _ T (0, 0) (H.all _ h)]; simp⟩⟩
theorem sec_of {x : Value} {s : List UInt8} (h : s.length = 64) : ((x :: bvs s).drop 1).take 64 = bvs s := by
  rw [List.drop_succ_cons, List.drop_zero, List.take_of_length_le (by rw [bvs_length]; omega)]
theorem wr_of {x : Value} {s : List UInt8} (h : s.length = 64) : ((x :: bvs s).drop 0).take 65 = x :: bvs s := by
  rw [List.drop_zero, List.take_of_length_le (by rw [List.length_cons, bvs_length]; omega)]
theorem wr_len {x : Value} {s : List UInt8} (h : s.length = 64) : (x :: bvs s).length = 65 := by rw [List.length_cons, bvs_length, h]
theorem wr_one {N : Int} {s : List UInt8} : ∀ u ∈ (Value.int .i64 N :: bvs s), u.oneCell' = true := by
  intro u hu
  rcases List.mem_cons.1 hu with rfl | hu
  · rfl
  · exact bvs_oneCell _ u hu
theorem inf_wr : (Tryz.prog.info? 101).map (fun i => (i.zero, i.size, i.bytes)) = some (some (.agg (Value.int .i64 0 :: wZ).toArray), 65, 72) := by kernel_rfl
theorem build_wr (N : Int) (W : World) : (Instr.build 101 #[(0, .agg #[.int .i64 N])]).run Tryz.prog W = .ok (.agg (Value.int .i64 N :: wZ).toArray) W := by kernel_rfl
theorem alloc_wr (W : World) : (Instr.alloc 101 true (.tuple #[])).run Tryz.prog W = .ok (.pointer (some ⟨W.heap.size, 0, none⟩)) (W.alloc (.cells (Value.int .i64 0 :: wZ).toArray 101)) := by kernel_rfl
theorem wpl_buildWr {ops : Array Oper} {rest : List Oper} {a : Act} {w : World} {Q : Exit → Act → World → Prop} {dst : Option Tmp} {x : Operand} {ty : TypeId} {pos : String} {after : Array Edge} {gd : Option (Nat × Bool)}
    (hw : Region.wanted ⟨dst, .build 101 #[(0, x)], ty, pos, after, gd⟩ (yielded ops a.tmps) = true) {N : Int} (hx : a.eval x = .agg #[.int .i64 N])
    (h : wpList Tryz.prog ops Q rest (a.put dst (.agg (Value.int .i64 N :: wZ).toArray)) w) : wpList Tryz.prog ops Q (⟨dst, .build 101 #[(0, x)], ty, pos, after, gd⟩ :: rest) a w :=
  wpl_run hw (by
    unfold execOp
    simp only [List.map_toArray, List.map_cons, List.map_nil, hx, Sem.run_bind, build_wr, Sem.run_pure, Result.andThen_ok]) h
theorem wpl_allocWr {ops : Array Oper} {rest : List Oper} {a : Act} {w : World} {Q : Exit → Act → World → Prop} {dst : Option Tmp} {ty : TypeId} {pos : String} {after : Array Edge} {gd : Option (Nat × Bool)} {L : List Ent} (H : Holds w L)
    (hw : Region.wanted ⟨dst, .alloc 101, ty, pos, after, gd⟩ (yielded ops a.tmps) = true)
    (h : ∀ q w', Holds w' (blk q (Value.int .i64 0 :: wZ) 101 :: L) → wpList Tryz.prog ops Q rest (a.put dst (.pointer (some ⟨q, 0, none⟩))) w') : wpList Tryz.prog ops Q (⟨dst, .alloc 101, ty, pos, after, gd⟩ :: rest) a w :=
  wpl_run hw (by
    unfold execOp
    simp only [Sem.run_bind, alloc_wr, Sem.run_pure, Result.andThen_ok]) (h _ _ (H.alloc _ _))
set_option maxRecDepth 100000 in
set_option maxHeartbeats 2000000 in
theorem write_yes {A : Option Addr} {m c : Nat} {b : List UInt8} (N : Nat) (hn : N < d.su.length) (hm64 : m ≤ 64) (hs : spentB d.lf d.bl = false) (hlen : d.wa.length ≤ 1000000) (H : Holds W L) (hm : Pull (dkE g v d) L L0) (hr : Gives L0 fun w => Rd w 1 A m c (bvs b))
    (k : ∀ v' w', Holds w' (dkE g v' ⟨d.su, d.no.set N (padS b), d.wa ++ [(N, padS b)], spentL d.lf d.bl, false⟩ :: L0) → R (.returned (.int .i64 0)) w') :
    Calls Tryz.prog 18 #[.pointer (some ⟨g, 0, none⟩), .int .i64 N, .slice A m c] W R := by
  have hR := hr W (H.pull hm).tail
  have hbl := hR.blen
  have hc := hR.top
  have hmc := hR.le
  unfold maxLen at hc
  clear hR
  obtain ⟨ho, H⟩ := dk_open (H.pull hm)
  clear hm
  have HK := Lib.hid k; clear k
  obtain ⟨gs, cs, gn, cn, aw, mw, cw⟩ := v
  obtain ⟨su, no, wa, lf, bl⟩ := d
  have h0 := ho.n0
  have h1 := ho.l1
  have h2 := ho.l2
  have hmw := ho.m
  simp only at h0 h1 h2 hn hlen hmw hs H
  have Hp := Lib.hid (pad_copy (N := N) hbl hm64)
  have Hl64 := Lib.hid (padS_len (b := b) (by omega))
  have Hs := Lib.hid hs
  have Ho := Lib.hid ho
  have d1 : decide ((N : Int) < 0) = false := by simp
  have d2 : decide ((su.length : Int) ≤ N) = false := by simp; omega
  have d3 : decide ((64 : Int) < m) = false := by simp; omega
  have h3 : (N : Int) < su.length := by omega
  have hmw2 : mw ≤ 1000000 := by omega
  have hkS : N * 64 + (bvs (padS b)).length ≤ (bvs no.flatten).length := by
    rw [bvs_length, flat_len ho.nl, Hl64.out, ho.nn]
    simp only; omega
  have HkS := Lib.hid hkS
  clear ho hs hbl hmw hkS
  go_enter Tryz.func18, Tryz.ntmps18
  go_wp2_with (first | ((with_reducible apply wpl_load H); (case hs => exact sc _ rfl); (case hw | hx => rfl); (case hm => (with_reducible repeat first | exact mH)); (case hv => rfl)) | ((with_reducible apply wpl_store H); (case hw | hx | hy => rfl); (case hm => (with_reducible repeat first | exact Upd.here)); (case hs => exact sz_ag _ _ rfl); (case h1 => rfl); (case hk => exact Nat.le_of_ble_eq_true rfl); clear H; (try clear W); intro W H; first | simp only [setL, List.set_cons_zero, List.set_cons_succ] at H) | ((with_reducible apply none_no H); (case hm => (with_reducible repeat first | exact mH)); (case hn => assumption); clear H; (try clear W); intro W H) | ((with_reducible apply spent_k H); (case h1 => assumption); (case h2 => assumption); (case hm => exact Upd.here); clear H; (try clear W); intro W H; rw [Hs.out] at H ⊢) | ((with_reducible apply wpl_buildWr); (case hw | hx => rfl)) | ((with_reducible apply wpl_allocWr H); (case hw => rfl); clear H; (try clear W); intro q1 W H) | (rw [hz_wr] at H; (with_reducible apply wpl_copyB (size := 1) (elem := 5) H); (case hs => kernel_rfl); (case hu => exact Tryz.underlying50); (case hw | hx | hy => rfl); (case hr => (first | (repeat (first | assumption | with_reducible apply Gives.cons)))); (case h1 => exact bvs_oneCell _); (case he => exact Hp.out); (case hk => exact Nat.le_of_ble_eq_true rfl); (case hm => (with_reducible repeat first | exact Upd.here)); clear H; (try clear W); intro W H))
  ((refine wp_region_J [10] H (by kernel_rfl) ?_); clear H; (try clear W); intro W H; (apply anyJ_takeP 0 (oi := Oper.mk _ _ _ _ _ _) rfl); (case hs | hf => kernel_rfl); (case hr | hF => kernel_rfl); (case hQ => exact fun _ _ _ h => h); (case H => first | exact .inr H ); (case hy => first | (apply yields_pure rfl; intro w; first | (go_simp; with_reducible rfl) )); (try simp only [Act.put, sA, sB, sC]); (apply anyJ_takeP 1 (oi := Oper.mk _ _ _ _ _ _) rfl); (case hs | hf => kernel_rfl); (case hr | hF => kernel_rfl); (case hQ => exact fun _ _ _ h => h); (case H => first | exact .inr H ); (case hy => first | (apply yields_pure rfl; intro w; first | (go_simp; with_reducible rfl) )); (try simp only [Act.put, sA, sB, sC]); (apply anyJ_takeP 2 (oi := Oper.mk _ _ _ _ _ _) rfl); (case hs | hf => kernel_rfl); (case hr | hF => kernel_rfl); (case hQ => exact fun _ _ _ h => h); (case H => first | exact .inr H ); (case hy => first | (apply yields_pure rfl; intro w; first | (go_simp; with_reducible rfl) )); (try simp only [Act.put, sA, sB, sC]); (apply anyJ_takeP 4 (oi := Oper.mk _ _ _ _ _ _) rfl); (case hs | hf => kernel_rfl); (case hr | hF => kernel_rfl); (case hQ => exact fun _ _ _ h => h); (case H => first | exact .inr H ); (case hy => first | (apply yields_pure rfl; intro w; first | (go_simp; with_reducible rfl) )); (try simp only [Act.put, sA, sB, sC]); (apply anyJ_takeP 5 (oi := Oper.mk _ _ _ _ _ _) rfl); (case hs | hf => kernel_rfl); (case hr | hF => kernel_rfl); (case hQ => exact fun _ _ _ h => h); (case H => first | exact .inr H ); (case hy => first | (apply yields_pure rfl; intro w; first | (go_simp; with_reducible rfl) )); (try simp only [Act.put, sA, sB, sC]); (apply anyJ_takeP 7 (oi := Oper.mk _ _ _ _ _ _) rfl); (case hs | hf => kernel_rfl); (case hr | hF => kernel_rfl); (case hQ => exact fun _ _ _ h => h); (case H => first | exact .inr H ); (case hy => first | (apply yields_pure rfl; intro w; first | (go_simp; with_reducible rfl) )); (try simp only [Act.put, sA, sB, sC]); (apply anyJ_take 3 (oi := Oper.mk _ _ _ _ _ _) rfl); (case hs | hf => kernel_rfl); (case hr | hc | hF => kernel_rfl); (case hQ => exact fun _ _ _ h => h); (case H => first | exact H ); (case hy => (first | ((apply yields_load); (case hs => exact sc _ rfl); (case hw | hx => rfl); (case hm => (with_reducible repeat first | exact mH | apply mT)); (case hv => rfl)) )); (try simp only [Act.put, sA, sB, sC]); (apply anyJ_take 6 (oi := Oper.mk _ _ _ _ _ _) rfl); (case hs | hf => kernel_rfl); (case hr | hc | hF => kernel_rfl); (case hQ => exact fun _ _ _ h => h); (case H => first | exact H ); (case hy => (first | ((apply yields_load); (case hs => exact sc _ rfl); (case hw | hx => rfl); (case hm => (with_reducible repeat first | exact mH)); (case hv => rfl)) )); (try simp only [Act.put, sA, sB, sC]); (apply anyJ_take 8 (oi := Oper.mk _ _ _ _ _ _) rfl); (case hs | hf => kernel_rfl); (case hr | hc | hF => kernel_rfl); (case hQ => exact fun _ _ _ h => h); (case H => first | exact H ); (case hy => (first | ((apply yields_loadA (vs := bvs (padS b)) (n := 64)); (case hs => exact ag _ _ rfl); (case hx => rfl); (case hm => (with_reducible repeat first | exact mH)); (case hw => rfl); (case hv => exact sec_of Hl64.out); (case hl => rw [bvs_length, Hl64.out])) )); (try simp only [Act.put, sA, sB, sC]); (apply anyJ_takeP 9 (oi := Oper.mk _ _ _ _ _ _) rfl); (case hs | hf => kernel_rfl); (case hr | hF => kernel_rfl); (case hQ => exact fun _ _ _ h => h); (case H => first | exact .inr H ); (case hy => first | (apply yields_pure rfl; intro w; first | (go_simp; with_reducible rfl) )); (try simp only [Act.put, sA, sB, sC]); (apply anyJ_one 10 (o := Oper.mk _ _ _ _ _ _)); (case hr => kernel_rfl); (case hi | hw => rfl); intro K hK; (first | ((with_reducible apply opw_storeR (vs := bvs (padS b)) H); (case hx | hy => rfl); (case h1 => exact bvs_oneCell _); (case hm => (with_reducible repeat first | exact Upd.here | apply Upd.there)); (case hs => (rw [bvs_length, Hl64.out]; exact sz_ag _ _ rfl)); (case hk => exact HkS.out); clear H; (try clear W); intro W H) ); (refine hK.out _ _ ?_ ?_); (· first | exact .inl rfl ); clear hK K; (try simp only [Act.put, sA, sB, sC]); (apply anyJ_done (by kernel_rfl)))
  rw [setL_sec Ho.out.nl (by rw [Ho.out.nn]; exact hn) Hl64.out] at H
  go_wp2_with (first | go_big_skip )
  ((refine wp_region_J [7, 10] H (by kernel_rfl) ?_); clear H; (try clear W); intro W H; (apply anyJ_takeP 0 (oi := Oper.mk _ _ _ _ _ _) rfl); (case hs | hf => kernel_rfl); (case hr | hF => kernel_rfl); (case hQ => exact fun _ _ _ h => h); (case H => first | exact .inr H ); (case hy => first | (apply yields_pure rfl; intro w; first | (go_simp; with_reducible rfl) )); (try simp only [Act.put, sA, sB, sC]); (apply anyJ_takeP 1 (oi := Oper.mk _ _ _ _ _ _) rfl); (case hs | hf => kernel_rfl); (case hr | hF => kernel_rfl); (case hQ => exact fun _ _ _ h => h); (case H => first | exact .inr H ); (case hy => first | (apply yields_pure rfl; intro w; first | (go_simp; with_reducible rfl) )); (try simp only [Act.put, sA, sB, sC]); (apply anyJ_takeP 2 (oi := Oper.mk _ _ _ _ _ _) rfl); (case hs | hf => kernel_rfl); (case hr | hF => kernel_rfl); (case hQ => exact fun _ _ _ h => h); (case H => first | exact .inr H ); (case hy => first | (apply yields_pure rfl; intro w; first | (go_simp; with_reducible rfl) )); (try simp only [Act.put, sA, sB, sC]); (apply anyJ_takeP 3 (oi := Oper.mk _ _ _ _ _ _) rfl); (case hs | hf => kernel_rfl); (case hr | hF => kernel_rfl); (case hQ => exact fun _ _ _ h => h); (case H => first | exact .inr H ); (case hy => first | (apply yields_pure rfl; intro w; first | (go_simp; with_reducible rfl) )); (try simp only [Act.put, sA, sB, sC]); (apply anyJ_take 4 (oi := Oper.mk _ _ _ _ _ _) rfl); (case hs | hf => kernel_rfl); (case hr | hc | hF => kernel_rfl); (case hQ => exact fun _ _ _ h => h); (case H => first | exact H ); (case hy => (first | ((apply yields_load); (case hs => exact sc _ rfl); (case hw | hx => rfl); (case hm => (with_reducible repeat first | exact mH | apply mT)); (case hv => rfl)) )); (try simp only [Act.put, sA, sB, sC]); (apply anyJ_take 5 (oi := Oper.mk _ _ _ _ _ _) rfl); (case hs | hf => kernel_rfl); (case hr | hc | hF => kernel_rfl); (case hQ => exact fun _ _ _ h => h); (case H => first | exact H ); (case hy => (first | ((apply yields_loadA (vs := Value.int .i64 N :: bvs (padS b)) (n := 65)); (case hs => exact ag _ _ rfl); (case hx => rfl); (case hm => (with_reducible repeat first | exact mH)); (case hw => rfl); (case hv => exact wr_of Hl64.out); (case hl => exact wr_len Hl64.out)) )); (try simp only [Act.put, sA, sB, sC]); (apply anyJ_one 6 (o := Oper.mk _ _ _ _ _ _)); (case hr => kernel_rfl); (case hi | hw => rfl); intro K hK; (first | (first | ((with_reducible apply opw_slice1 H); (case hx => rfl); (case ht => exact Tryz.underlying92); (case hinfo => exact inf_wr); (case hzs => rfl); (case hl => exact wr_len Hl64.out); (case h0 => decide); (case h24 => exact Nat.le_of_ble_eq_true rfl); clear H; (try clear W); intro q2 W H) ) ); (refine hK.out _ _ ?_ ?_); (· first | exact .inr (Reord.use H (by ((repeat (with_reducible apply Reord.cons; (case p => (with_reducible repeat first | exact Pull.here | apply Pull.there)))); repeat (first | with_reducible exact Reord.rest | with_reducible apply Reord.drop))))); clear hK K; (try simp only [Act.put, sA, sB, sC]); (apply anyJ_one 7 (o := Oper.mk _ _ _ _ _ _)); (case hr => kernel_rfl); (case hi | hw => rfl); intro K hK; (first | (first | ((with_reducible apply opw_app H); (case ht => exact Tryz.underlying92); (case hinfo => exact inf_wr); (case hs | hx => rfl); (case hm => (with_reducible repeat first | exact Pull.here | apply Pull.there)); (case hzs => rfl); (case hsz => decide); (case hr => exact gives_blk1 (by (with_reducible repeat first | exact mH)) (wr_len Hl64.out)); (case h1 => exact wr_one); (case h63 => (simp only [maxLen]; omega)); (case hbytes => omega); clear H; (try clear W); intro A1 n1 c1 W hn1 H hle1 htop1; obtain rfl := hn1.out; clear hn1)) ); (refine hK.out _ _ ?_ ?_); (· first | exact .inl rfl ); clear hK K; (try simp only [Act.put, sA, sB, sC]); (apply anyJ_takeP 8 (oi := Oper.mk _ _ _ _ _ _) rfl); (case hs | hf => kernel_rfl); (case hr | hF => kernel_rfl); (case hQ => exact fun _ _ _ h => h); (case H => first | exact .inl rfl ); (case hy => first | (apply yields_pure rfl; intro w; first | (go_simp; with_reducible rfl) )); (try simp only [Act.put, sA, sB, sC]); (apply anyJ_takeP 9 (oi := Oper.mk _ _ _ _ _ _) rfl); (case hs | hf => kernel_rfl); (case hr | hF => kernel_rfl); (case hQ => exact fun _ _ _ h => h); (case H => first | exact .inl rfl ); (case hy => first | (apply yields_pure rfl; intro w; first | (go_simp; with_reducible rfl) )); (try simp only [Act.put, sA, sB, sC]); (apply anyJ_one 10 (o := Oper.mk _ _ _ _ _ _)); (case hr => kernel_rfl); (case hi | hw => rfl); intro K hK; (first | ((with_reducible apply opw_store1 H); (case hs => exact sz_sc _ rfl); (case hx => rfl); (case hy => (first | exact (rfl : _ = Value.slice _ _ _) )); (case hm => (with_reducible repeat first | exact Upd.here | apply Upd.there)); (case h1 => rfl); (case hk => exact Nat.le_of_ble_eq_true rfl); clear H; (try clear W); intro W H; simp only [setL, List.set_cons_zero, List.set_cons_succ] at H)); (refine hK.out _ _ ?_ ?_); (· first | exact .inl rfl ); clear hK K; (try simp only [Act.put, sA, sB, sC]); (apply anyJ_done (by kernel_rfl)))
  have e : wcells wa ++ (Value.int IntKind.i64 N :: bvs (padS b)) = wcells (wa ++ [(N, padS b)]) := by simp [wcells, wcell]
  rw [e] at H
  go_wp2_with (first | go_big_skip )
  have ho := Ho.out
  have hb := spentL_le (bl := bl) h1 h2
  refine HK.out ⟨gs, cs, gn, cn, A1, mw + 1, c1⟩ _ (dk_shut _ _ (Reord.use H (by ((repeat (with_reducible apply Reord.cons; (case p => (with_reducible repeat first | exact Pull.here | apply Pull.there)))); repeat (first | with_reducible exact Reord.rest | with_reducible apply Reord.drop)))) ⟨h0, ho.n1, ?_, ho.sl, ?_, ?_, ?_, hb.1, hb.2⟩)
  · simpa using ho.nn
  · intro s hs
    rcases List.mem_or_eq_of_mem_set hs with h | rfl
    · exact ho.nl s h
    · exact Hl64.out
  · intro x hx
    rcases List.mem_append.1 hx with h | h
    · exact ho.wl x h
    · obtain rfl := List.mem_singleton.1 h
      exact ⟨hn, Hl64.out⟩
  · have := ho.m; simp only at this; simp [this]
end
end Go.Proofs.YtdnioigcgggdbaaGreatDoor
