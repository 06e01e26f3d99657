/-
  The reference's disk in memory: one entry, of the same disk as the program's.
-/
import Derived.Test.YtaegjjaabeakoaaDoorRws
import Derived.Test.YtaegjjaabeakoaaDoorDk6
set_option linter.unusedVariables false
set_option linter.unusedSimpArgs false
namespace Go.Proofs.YtaegjjaabeakoaaDoor
open Go.RowKit

/-- what is read: what is sure, and over it what waits. -/
def lay (su : List (List UInt8)) (wa : List (Nat × List UInt8)) : List (List UInt8) := wa.foldl (fun l x => l.set x.1 x.2) su
theorem lay_nil (su) : lay su [] = su := rfl
theorem lay_snoc (su wa x) : lay su (wa ++ [x]) = (lay su wa).set x.1 x.2 := by unfold lay; rw [List.foldl_append]; rfl
theorem lay_len : ∀ (wa su), (lay su wa).length = su.length
  | [], su => rfl
  | x :: wa, su => by
    have := lay_len wa (su.set x.1 x.2)
    rw [List.length_set] at this
    exact this
theorem lay_take {wa : List (Nat × List UInt8)} {k : Nat} {x : Nat × List UInt8} (h : wa[k]? = some x) (su) : lay su (wa.take (k + 1)) = (lay su (wa.take k)).set x.1 x.2 := by
  rw [List.take_add_one, h, Option.toList_some, lay_snoc]
theorem lay_64 : ∀ {wa : List (Nat × List UInt8)} {su : List (List UInt8)} {n : Nat}, (∀ s ∈ su, s.length = 64) → (∀ x ∈ wa, x.1 < n ∧ x.2.length = 64) → ∀ s ∈ lay su wa, s.length = 64
  | [], su, _, h, _ => h
  | x :: wa, su, n, h, hw => by
    have : lay su (x :: wa) = lay (su.set x.1 x.2) wa := rfl
    rw [this]
    refine lay_64 (n := n) (fun s hs => ?_) fun y hy => hw y (.tail _ hy)
    rcases List.mem_or_eq_of_mem_set hs with h1 | rfl
    · exact h s h1
    · exact (hw x (.head _)).2
/-- so many calls that are left, as the reference keeps them. -/
def clf (lf : Int) : Int := max (-1) lf
/-- where a reference's disk lies. -/
structure Rv where
  gs : Nat
  cs : Nat
  q : List (Option Addr × Nat)
  aw : Option Addr
  cw : Nat
  qw : List (Option Addr × Nat)
structure ROk (d : Dd) : Prop where
  n0 : 0 < d.su.length
  n1 : d.su.length ≤ 4096
  nn : d.no = lay d.su d.wa
  sl : ∀ s ∈ d.su, s.length = 64
  wl : ∀ x ∈ d.wa, x.1 < d.su.length ∧ x.2.length = 64
  l1 : -9223372036854775808 ≤ d.lf
  l2 : d.lf ≤ 9223372036854775807
def rdL (g : Nat) (v : Rv) (d : Dd) : List Ent :=
  [blk g [.slice (some ⟨v.gs, 0, none⟩) d.su.length v.cs, .slice v.aw d.wa.length v.cw, .int .i64 (clf d.lf), .bool d.bl] 65,
   ownE 42 1 (.slice (some ⟨v.gs, 0, none⟩) d.su.length v.cs) d.su.length (List.zipWith rh v.q d.su), rwsE v.q d.su,
   ownE 72 2 (.slice v.aw d.wa.length v.cw) d.wa.length (wtc v.qw d.wa), rwsE v.qw (d.wa.map (·.2))]
def rdE (g : Nat) (v : Rv) (d : Dd) : Ent := packE (rdL g v d) (ROk d)
section
variable {W : World} {L L' L0 : List Ent} {R : Ending → World → Prop} {g : Nat} {v : Rv} {d : Dd}
theorem rd_open (H : Holds W (rdE g v d :: L)) : ROk d ∧ Holds W (blk g [.slice (some ⟨v.gs, 0, none⟩) d.su.length v.cs, .slice v.aw d.wa.length v.cw, .int .i64 (clf d.lf), .bool d.bl] 65 ::
   ownE 42 1 (.slice (some ⟨v.gs, 0, none⟩) d.su.length v.cs) d.su.length (List.zipWith rh v.q d.su) :: rwsE v.q d.su ::
   ownE 72 2 (.slice v.aw d.wa.length v.cw) d.wa.length (wtc v.qw d.wa) :: rwsE v.qw (d.wa.map (·.2)) :: L) := H.unpack
theorem rd_shut (v : Rv) (d : Dd) (H : Holds W (blk g [.slice (some ⟨v.gs, 0, none⟩) d.su.length v.cs, .slice v.aw d.wa.length v.cw, .int .i64 (clf d.lf), .bool d.bl] 65 ::
   ownE 42 1 (.slice (some ⟨v.gs, 0, none⟩) d.su.length v.cs) d.su.length (List.zipWith rh v.q d.su) :: rwsE v.q d.su ::
   ownE 72 2 (.slice v.aw d.wa.length v.cw) d.wa.length (wtc v.qw d.wa) :: rwsE v.qw (d.wa.map (·.2)) :: L)) (ho : ROk d) : Holds W (rdE g v d :: L) :=
  Holds.pack (l := rdL g v d) H ho (by intro e he; simp only [rdL, List.mem_cons, List.not_mem_nil, or_false] at he; rcases he with rfl | rfl | rfl | rfl | rfl <;> rfl)
set_option maxRecDepth 100000 in
set_option maxHeartbeats 1000000 in
theorem rmay_k {x y : Value} {lf : Int} {bl : Bool} (h2 : lf ≤ 9223372036854775807) (H : Holds W L) (hm : Pull (blk g [x, y, .int .i64 (clf lf), .bool bl] 65) L L0)
    (k : ∀ w', Holds w' (blk g [x, y, .int .i64 (clf (spentL lf bl)), .bool (spentB lf bl)] 65 :: L0) → R (.returned (.bool (!spentB lf bl))) w') : Calls Tryd.prog 35 #[.pointer (some ⟨g, 0, none⟩)] W R := by
  replace H := H.pull hm
  clear hm
  have HK := Lib.hid k; clear k
  by_cases h0 : lf = 0
  · subst h0
    rw [show spentL 0 bl = 0 from by cases bl <;> rfl, show spentB 0 bl = true from by cases bl <;> rfl] at HK
    rw [show clf 0 = 0 from rfl] at H HK
    go_enter Tryd.func35, Tryd.ntmps35
    go_wp2_with (first | go_big_skip | ((with_reducible refine wpl_absorb H ?_); clear H; (first  | generalize W.heap.size = q0); (try clear W); intro W H) | ((with_reducible refine wpl_drew H ?_); clear H; (try clear W); intro W H) | ((with_reducible refine wpl_drewN H ?_); clear H; (try clear W); intro W H) | ((with_reducible apply wpl_load H); (case hs => exact sc _ rfl); (case hw => rfl); (case hx => rfl); (case hm => (repeat (first | with_reducible exact mH | with_reducible assumption | with_reducible apply mT))); (case hv => rfl)) | ((with_reducible apply wpl_loadA H); (case hs => exact ag _ _ rfl); (case hw => rfl); (case hx => rfl); (case hm => (repeat (first | with_reducible exact mH | with_reducible assumption | with_reducible apply mT))); (case hv => rfl); (case hl => rfl); (try simp only [List.drop_zero, List.drop_succ_cons, List.take_succ_cons, List.take_zero, List.take_nil])) | ((with_reducible apply wpl_storeO H); (case hs => exact sz_sc _ rfl); (case hw => rfl); (case hx => rfl); (case hy => (first | exact (rfl : _ = Value.int _ _) | exact (rfl : _ = Value.bool _) | exact (rfl : _ = Value.slice _ _ _) | exact (rfl : _ = Value.pointer _) | exact (rfl : _ = Value.string _) | rfl)); (case h1 => rfl); (case hm => (repeat (first | with_reducible exact Upd.here | with_reducible assumption | with_reducible apply Upd.there))); (case hj => first | assumption | omega); clear H; (try clear W); intro W H) | ((with_reducible apply wpl_store1 H); (case hs => exact sz_sc _ rfl); (case hw => rfl); (case hx => rfl); (case hy => (first | exact (rfl : _ = Value.int _ _) | exact (rfl : _ = Value.bool _) | exact (rfl : _ = Value.slice _ _ _) | exact (rfl : _ = Value.pointer _) | exact (rfl : _ = Value.string _) | rfl)); (case hm => (repeat (first | with_reducible exact Upd.here | with_reducible assumption | with_reducible apply Upd.there))); (case h1 => rfl); (case hk => exact Nat.le_of_ble_eq_true rfl); clear H; (try clear W); intro W H; simp only [setL, List.set_cons_zero, List.set_cons_succ] at H) | ((with_reducible apply wpl_store H); (case hw => rfl); (case hx => rfl); (case hy => rfl); (case hm => (repeat (first | with_reducible exact Upd.here | with_reducible assumption | with_reducible apply Upd.there))); (case hs => exact sz_ag _ _ rfl); (case h1 => rfl); (case hk => exact Nat.le_of_ble_eq_true rfl); clear H; (try clear W); intro W H; first | rw [setL_whole rfl] at H | simp only [setL, List.set_cons_zero, List.set_cons_succ] at H))
    exact HK.out _ H
  · have h3 : (lf == 0) = false := by rw [beq_eq_false_iff_ne]; exact h0
    by_cases h4 : 0 < lf
    · have e1 : clf lf = lf := by unfold clf; omega
      rw [e1] at H
      cases bl with
      | true =>
        rw [show spentL lf true = lf from by simp [spentL, spentB], show spentB lf true = true from rfl, e1] at HK
        clear e1
        go_enter Tryd.func35, Tryd.ntmps35
        go_wp2_with (first | go_big_skip | ((with_reducible refine wpl_absorb H ?_); clear H; (first  | generalize W.heap.size = q0); (try clear W); intro W H) | ((with_reducible refine wpl_drew H ?_); clear H; (try clear W); intro W H) | ((with_reducible refine wpl_drewN H ?_); clear H; (try clear W); intro W H) | ((with_reducible apply wpl_load H); (case hs => exact sc _ rfl); (case hw => rfl); (case hx => rfl); (case hm => (repeat (first | with_reducible exact mH | with_reducible assumption | with_reducible apply mT))); (case hv => rfl)) | ((with_reducible apply wpl_loadA H); (case hs => exact ag _ _ rfl); (case hw => rfl); (case hx => rfl); (case hm => (repeat (first | with_reducible exact mH | with_reducible assumption | with_reducible apply mT))); (case hv => rfl); (case hl => rfl); (try simp only [List.drop_zero, List.drop_succ_cons, List.take_succ_cons, List.take_zero, List.take_nil])) | ((with_reducible apply wpl_storeO H); (case hs => exact sz_sc _ rfl); (case hw => rfl); (case hx => rfl); (case hy => (first | exact (rfl : _ = Value.int _ _) | exact (rfl : _ = Value.bool _) | exact (rfl : _ = Value.slice _ _ _) | exact (rfl : _ = Value.pointer _) | exact (rfl : _ = Value.string _) | rfl)); (case h1 => rfl); (case hm => (repeat (first | with_reducible exact Upd.here | with_reducible assumption | with_reducible apply Upd.there))); (case hj => first | assumption | omega); clear H; (try clear W); intro W H) | ((with_reducible apply wpl_store1 H); (case hs => exact sz_sc _ rfl); (case hw => rfl); (case hx => rfl); (case hy => (first | exact (rfl : _ = Value.int _ _) | exact (rfl : _ = Value.bool _) | exact (rfl : _ = Value.slice _ _ _) | exact (rfl : _ = Value.pointer _) | exact (rfl : _ = Value.string _) | rfl)); (case hm => (repeat (first | with_reducible exact Upd.here | with_reducible assumption | with_reducible apply Upd.there))); (case h1 => rfl); (case hk => exact Nat.le_of_ble_eq_true rfl); clear H; (try clear W); intro W H; simp only [setL, List.set_cons_zero, List.set_cons_succ] at H) | ((with_reducible apply wpl_store H); (case hw => rfl); (case hx => rfl); (case hy => rfl); (case hm => (repeat (first | with_reducible exact Upd.here | with_reducible assumption | with_reducible apply Upd.there))); (case hs => exact sz_ag _ _ rfl); (case h1 => rfl); (case hk => exact Nat.le_of_ble_eq_true rfl); clear H; (try clear W); intro W H; first | rw [setL_whole rfl] at H | simp only [setL, List.set_cons_zero, List.set_cons_succ] at H))
        exact HK.out _ H
      | false =>
        rw [show spentL lf false = lf - 1 from by simp [spentL, spentB, h3, h4], show spentB lf false = false from by simp [spentB, h3], show clf (lf - 1) = lf - 1 from by unfold clf; omega] at HK
        clear e1
        go_enter Tryd.func35, Tryd.ntmps35
        go_wp2_with (first | go_big_skip | ((with_reducible refine wpl_absorb H ?_); clear H; (first  | generalize W.heap.size = q0); (try clear W); intro W H) | ((with_reducible refine wpl_drew H ?_); clear H; (try clear W); intro W H) | ((with_reducible refine wpl_drewN H ?_); clear H; (try clear W); intro W H) | ((with_reducible apply wpl_load H); (case hs => exact sc _ rfl); (case hw => rfl); (case hx => rfl); (case hm => (repeat (first | with_reducible exact mH | with_reducible assumption | with_reducible apply mT))); (case hv => rfl)) | ((with_reducible apply wpl_loadA H); (case hs => exact ag _ _ rfl); (case hw => rfl); (case hx => rfl); (case hm => (repeat (first | with_reducible exact mH | with_reducible assumption | with_reducible apply mT))); (case hv => rfl); (case hl => rfl); (try simp only [List.drop_zero, List.drop_succ_cons, List.take_succ_cons, List.take_zero, List.take_nil])) | ((with_reducible apply wpl_storeO H); (case hs => exact sz_sc _ rfl); (case hw => rfl); (case hx => rfl); (case hy => (first | exact (rfl : _ = Value.int _ _) | exact (rfl : _ = Value.bool _) | exact (rfl : _ = Value.slice _ _ _) | exact (rfl : _ = Value.pointer _) | exact (rfl : _ = Value.string _) | rfl)); (case h1 => rfl); (case hm => (repeat (first | with_reducible exact Upd.here | with_reducible assumption | with_reducible apply Upd.there))); (case hj => first | assumption | omega); clear H; (try clear W); intro W H) | ((with_reducible apply wpl_store1 H); (case hs => exact sz_sc _ rfl); (case hw => rfl); (case hx => rfl); (case hy => (first | exact (rfl : _ = Value.int _ _) | exact (rfl : _ = Value.bool _) | exact (rfl : _ = Value.slice _ _ _) | exact (rfl : _ = Value.pointer _) | exact (rfl : _ = Value.string _) | rfl)); (case hm => (repeat (first | with_reducible exact Upd.here | with_reducible assumption | with_reducible apply Upd.there))); (case h1 => rfl); (case hk => exact Nat.le_of_ble_eq_true rfl); clear H; (try clear W); intro W H; simp only [setL, List.set_cons_zero, List.set_cons_succ] at H) | ((with_reducible apply wpl_store H); (case hw => rfl); (case hx => rfl); (case hy => rfl); (case hm => (repeat (first | with_reducible exact Upd.here | with_reducible assumption | with_reducible apply Upd.there))); (case hs => exact sz_ag _ _ rfl); (case h1 => rfl); (case hk => exact Nat.le_of_ble_eq_true rfl); clear H; (try clear W); intro W H; first | rw [setL_whole rfl] at H | simp only [setL, List.set_cons_zero, List.set_cons_succ] at H))
        exact HK.out _ H
    · have e1 : clf lf = -1 := by unfold clf; omega
      rw [e1] at H
      cases bl with
      | true =>
        rw [show spentL lf true = lf from by simp [spentL, spentB], show spentB lf true = true from rfl, e1] at HK
        clear e1
        go_enter Tryd.func35, Tryd.ntmps35
        go_wp2_with (first | go_big_skip | ((with_reducible refine wpl_absorb H ?_); clear H; (first  | generalize W.heap.size = q0); (try clear W); intro W H) | ((with_reducible refine wpl_drew H ?_); clear H; (try clear W); intro W H) | ((with_reducible refine wpl_drewN H ?_); clear H; (try clear W); intro W H) | ((with_reducible apply wpl_load H); (case hs => exact sc _ rfl); (case hw => rfl); (case hx => rfl); (case hm => (repeat (first | with_reducible exact mH | with_reducible assumption | with_reducible apply mT))); (case hv => rfl)) | ((with_reducible apply wpl_loadA H); (case hs => exact ag _ _ rfl); (case hw => rfl); (case hx => rfl); (case hm => (repeat (first | with_reducible exact mH | with_reducible assumption | with_reducible apply mT))); (case hv => rfl); (case hl => rfl); (try simp only [List.drop_zero, List.drop_succ_cons, List.take_succ_cons, List.take_zero, List.take_nil])) | ((with_reducible apply wpl_storeO H); (case hs => exact sz_sc _ rfl); (case hw => rfl); (case hx => rfl); (case hy => (first | exact (rfl : _ = Value.int _ _) | exact (rfl : _ = Value.bool _) | exact (rfl : _ = Value.slice _ _ _) | exact (rfl : _ = Value.pointer _) | exact (rfl : _ = Value.string _) | rfl)); (case h1 => rfl); (case hm => (repeat (first | with_reducible exact Upd.here | with_reducible assumption | with_reducible apply Upd.there))); (case hj => first | assumption | omega); clear H; (try clear W); intro W H) | ((with_reducible apply wpl_store1 H); (case hs => exact sz_sc _ rfl); (case hw => rfl); (case hx => rfl); (case hy => (first | exact (rfl : _ = Value.int _ _) | exact (rfl : _ = Value.bool _) | exact (rfl : _ = Value.slice _ _ _) | exact (rfl : _ = Value.pointer _) | exact (rfl : _ = Value.string _) | rfl)); (case hm => (repeat (first | with_reducible exact Upd.here | with_reducible assumption | with_reducible apply Upd.there))); (case h1 => rfl); (case hk => exact Nat.le_of_ble_eq_true rfl); clear H; (try clear W); intro W H; simp only [setL, List.set_cons_zero, List.set_cons_succ] at H) | ((with_reducible apply wpl_store H); (case hw => rfl); (case hx => rfl); (case hy => rfl); (case hm => (repeat (first | with_reducible exact Upd.here | with_reducible assumption | with_reducible apply Upd.there))); (case hs => exact sz_ag _ _ rfl); (case h1 => rfl); (case hk => exact Nat.le_of_ble_eq_true rfl); clear H; (try clear W); intro W H; first | rw [setL_whole rfl] at H | simp only [setL, List.set_cons_zero, List.set_cons_succ] at H))
        exact HK.out _ H
      | false =>
        rw [show spentL lf false = lf from by simp [spentL, h4], show spentB lf false = false from by simp [spentB, h3], e1] at HK
        clear e1
        go_enter Tryd.func35, Tryd.ntmps35
        go_wp2_with (first | go_big_skip | ((with_reducible refine wpl_absorb H ?_); clear H; (first  | generalize W.heap.size = q0); (try clear W); intro W H) | ((with_reducible refine wpl_drew H ?_); clear H; (try clear W); intro W H) | ((with_reducible refine wpl_drewN H ?_); clear H; (try clear W); intro W H) | ((with_reducible apply wpl_load H); (case hs => exact sc _ rfl); (case hw => rfl); (case hx => rfl); (case hm => (repeat (first | with_reducible exact mH | with_reducible assumption | with_reducible apply mT))); (case hv => rfl)) | ((with_reducible apply wpl_loadA H); (case hs => exact ag _ _ rfl); (case hw => rfl); (case hx => rfl); (case hm => (repeat (first | with_reducible exact mH | with_reducible assumption | with_reducible apply mT))); (case hv => rfl); (case hl => rfl); (try simp only [List.drop_zero, List.drop_succ_cons, List.take_succ_cons, List.take_zero, List.take_nil])) | ((with_reducible apply wpl_storeO H); (case hs => exact sz_sc _ rfl); (case hw => rfl); (case hx => rfl); (case hy => (first | exact (rfl : _ = Value.int _ _) | exact (rfl : _ = Value.bool _) | exact (rfl : _ = Value.slice _ _ _) | exact (rfl : _ = Value.pointer _) | exact (rfl : _ = Value.string _) | rfl)); (case h1 => rfl); (case hm => (repeat (first | with_reducible exact Upd.here | with_reducible assumption | with_reducible apply Upd.there))); (case hj => first | assumption | omega); clear H; (try clear W); intro W H) | ((with_reducible apply wpl_store1 H); (case hs => exact sz_sc _ rfl); (case hw => rfl); (case hx => rfl); (case hy => (first | exact (rfl : _ = Value.int _ _) | exact (rfl : _ = Value.bool _) | exact (rfl : _ = Value.slice _ _ _) | exact (rfl : _ = Value.pointer _) | exact (rfl : _ = Value.string _) | rfl)); (case hm => (repeat (first | with_reducible exact Upd.here | with_reducible assumption | with_reducible apply Upd.there))); (case h1 => rfl); (case hk => exact Nat.le_of_ble_eq_true rfl); clear H; (try clear W); intro W H; simp only [setL, List.set_cons_zero, List.set_cons_succ] at H) | ((with_reducible apply wpl_store H); (case hw => rfl); (case hx => rfl); (case hy => rfl); (case hm => (repeat (first | with_reducible exact Upd.here | with_reducible assumption | with_reducible apply Upd.there))); (case hs => exact sz_ag _ _ rfl); (case h1 => rfl); (case hk => exact Nat.le_of_ble_eq_true rfl); clear H; (try clear W); intro W H; first | rw [setL_whole rfl] at H | simp only [setL, List.set_cons_zero, List.set_cons_succ] at H))
        exact HK.out _ H
set_option maxRecDepth 100000 in
set_option maxHeartbeats 1000000 in
theorem rlen_k (H : Holds W L) (hm : Pull (rdE g v d) L L0) (k : ∀ w', Holds w' (rdE g v d :: L0) → R (.returned (.int .i64 (d.su.length : Int))) w') : Calls Tryd.prog 27 #[.pointer (some ⟨g, 0, none⟩)] W R := by
  obtain ⟨ho, H⟩ := rd_open (H.pull hm)
  clear hm
  have HK := Lib.hid k; clear k
  have Ho := Lib.hid ho
  clear ho
  go_enter Tryd.func27, Tryd.ntmps27
  go_wp2_with (first | go_big_skip | ((with_reducible refine wpl_absorb H ?_); clear H; (first  | generalize W.heap.size = q0); (try clear W); intro W H) | ((with_reducible refine wpl_drew H ?_); clear H; (try clear W); intro W H) | ((with_reducible refine wpl_drewN H ?_); clear H; (try clear W); intro W H) | ((with_reducible apply wpl_load H); (case hs => exact sc _ rfl); (case hw => rfl); (case hx => rfl); (case hm => (repeat (first | with_reducible exact mH | with_reducible assumption | with_reducible apply mT))); (case hv => rfl)) | ((with_reducible apply wpl_loadA H); (case hs => exact ag _ _ rfl); (case hw => rfl); (case hx => rfl); (case hm => (repeat (first | with_reducible exact mH | with_reducible assumption | with_reducible apply mT))); (case hv => rfl); (case hl => rfl); (try simp only [List.drop_zero, List.drop_succ_cons, List.take_succ_cons, List.take_zero, List.take_nil])) | ((with_reducible apply wpl_storeO H); (case hs => exact sz_sc _ rfl); (case hw => rfl); (case hx => rfl); (case hy => (first | exact (rfl : _ = Value.int _ _) | exact (rfl : _ = Value.bool _) | exact (rfl : _ = Value.slice _ _ _) | exact (rfl : _ = Value.pointer _) | exact (rfl : _ = Value.string _) | rfl)); (case h1 => rfl); (case hm => (repeat (first | with_reducible exact Upd.here | with_reducible assumption | with_reducible apply Upd.there))); (case hj => first | assumption | omega); clear H; (try clear W); intro W H) | ((with_reducible apply wpl_store1 H); (case hs => exact sz_sc _ rfl); (case hw => rfl); (case hx => rfl); (case hy => (first | exact (rfl : _ = Value.int _ _) | exact (rfl : _ = Value.bool _) | exact (rfl : _ = Value.slice _ _ _) | exact (rfl : _ = Value.pointer _) | exact (rfl : _ = Value.string _) | rfl)); (case hm => (repeat (first | with_reducible exact Upd.here | with_reducible assumption | with_reducible apply Upd.there))); (case h1 => rfl); (case hk => exact Nat.le_of_ble_eq_true rfl); clear H; (try clear W); intro W H; simp only [setL, List.set_cons_zero, List.set_cons_succ] at H) | ((with_reducible apply wpl_store H); (case hw => rfl); (case hx => rfl); (case hy => rfl); (case hm => (repeat (first | with_reducible exact Upd.here | with_reducible assumption | with_reducible apply Upd.there))); (case hs => exact sz_ag _ _ rfl); (case h1 => rfl); (case hk => exact Nat.le_of_ble_eq_true rfl); clear H; (try clear W); intro W H; first | rw [setL_whole rfl] at H | simp only [setL, List.set_cons_zero, List.set_cons_succ] at H))
  exact HK.out _ (rd_shut _ _ H Ho.out)
set_option maxRecDepth 100000 in
set_option maxHeartbeats 1000000 in
theorem rwaits_k (H : Holds W L) (hm : Pull (rdE g v d) L L0) (k : ∀ w', Holds w' (rdE g v d :: L0) → R (.returned (.int .i64 (d.wa.length : Int))) w') : Calls Tryd.prog 25 #[.pointer (some ⟨g, 0, none⟩)] W R := by
  obtain ⟨ho, H⟩ := rd_open (H.pull hm)
  clear hm
  have HK := Lib.hid k; clear k
  have Ho := Lib.hid ho
  clear ho
  go_enter Tryd.func25, Tryd.ntmps25
  go_wp2_with (first | go_big_skip | ((with_reducible refine wpl_absorb H ?_); clear H; (first  | generalize W.heap.size = q0); (try clear W); intro W H) | ((with_reducible refine wpl_drew H ?_); clear H; (try clear W); intro W H) | ((with_reducible refine wpl_drewN H ?_); clear H; (try clear W); intro W H) | ((with_reducible apply wpl_load H); (case hs => exact sc _ rfl); (case hw => rfl); (case hx => rfl); (case hm => (repeat (first | with_reducible exact mH | with_reducible assumption | with_reducible apply mT))); (case hv => rfl)) | ((with_reducible apply wpl_loadA H); (case hs => exact ag _ _ rfl); (case hw => rfl); (case hx => rfl); (case hm => (repeat (first | with_reducible exact mH | with_reducible assumption | with_reducible apply mT))); (case hv => rfl); (case hl => rfl); (try simp only [List.drop_zero, List.drop_succ_cons, List.take_succ_cons, List.take_zero, List.take_nil])) | ((with_reducible apply wpl_storeO H); (case hs => exact sz_sc _ rfl); (case hw => rfl); (case hx => rfl); (case hy => (first | exact (rfl : _ = Value.int _ _) | exact (rfl : _ = Value.bool _) | exact (rfl : _ = Value.slice _ _ _) | exact (rfl : _ = Value.pointer _) | exact (rfl : _ = Value.string _) | rfl)); (case h1 => rfl); (case hm => (repeat (first | with_reducible exact Upd.here | with_reducible assumption | with_reducible apply Upd.there))); (case hj => first | assumption | omega); clear H; (try clear W); intro W H) | ((with_reducible apply wpl_store1 H); (case hs => exact sz_sc _ rfl); (case hw => rfl); (case hx => rfl); (case hy => (first | exact (rfl : _ = Value.int _ _) | exact (rfl : _ = Value.bool _) | exact (rfl : _ = Value.slice _ _ _) | exact (rfl : _ = Value.pointer _) | exact (rfl : _ = Value.string _) | rfl)); (case hm => (repeat (first | with_reducible exact Upd.here | with_reducible assumption | with_reducible apply Upd.there))); (case h1 => rfl); (case hk => exact Nat.le_of_ble_eq_true rfl); clear H; (try clear W); intro W H; simp only [setL, List.set_cons_zero, List.set_cons_succ] at H) | ((with_reducible apply wpl_store H); (case hw => rfl); (case hx => rfl); (case hy => rfl); (case hm => (repeat (first | with_reducible exact Upd.here | with_reducible assumption | with_reducible apply Upd.there))); (case hs => exact sz_ag _ _ rfl); (case h1 => rfl); (case hk => exact Nat.le_of_ble_eq_true rfl); clear H; (try clear W); intro W H; first | rw [setL_whole rfl] at H | simp only [setL, List.set_cons_zero, List.set_cons_succ] at H))
  exact HK.out _ (rd_shut _ _ H Ho.out)
set_option maxRecDepth 100000 in
set_option maxHeartbeats 1000000 in
theorem rblown_k (H : Holds W L) (hm : Pull (rdE g v d) L L0) (k : ∀ w', Holds w' (rdE g v d :: L0) → R (.returned (.bool d.bl)) w') : Calls Tryd.prog 24 #[.pointer (some ⟨g, 0, none⟩)] W R := by
  obtain ⟨ho, H⟩ := rd_open (H.pull hm)
  clear hm
  have HK := Lib.hid k; clear k
  have Ho := Lib.hid ho
  clear ho
  go_enter Tryd.func24, Tryd.ntmps24
  go_wp2_with (first | go_big_skip | ((with_reducible refine wpl_absorb H ?_); clear H; (first  | generalize W.heap.size = q0); (try clear W); intro W H) | ((with_reducible refine wpl_drew H ?_); clear H; (try clear W); intro W H) | ((with_reducible refine wpl_drewN H ?_); clear H; (try clear W); intro W H) | ((with_reducible apply wpl_load H); (case hs => exact sc _ rfl); (case hw => rfl); (case hx => rfl); (case hm => (repeat (first | with_reducible exact mH | with_reducible assumption | with_reducible apply mT))); (case hv => rfl)) | ((with_reducible apply wpl_loadA H); (case hs => exact ag _ _ rfl); (case hw => rfl); (case hx => rfl); (case hm => (repeat (first | with_reducible exact mH | with_reducible assumption | with_reducible apply mT))); (case hv => rfl); (case hl => rfl); (try simp only [List.drop_zero, List.drop_succ_cons, List.take_succ_cons, List.take_zero, List.take_nil])) | ((with_reducible apply wpl_storeO H); (case hs => exact sz_sc _ rfl); (case hw => rfl); (case hx => rfl); (case hy => (first | exact (rfl : _ = Value.int _ _) | exact (rfl : _ = Value.bool _) | exact (rfl : _ = Value.slice _ _ _) | exact (rfl : _ = Value.pointer _) | exact (rfl : _ = Value.string _) | rfl)); (case h1 => rfl); (case hm => (repeat (first | with_reducible exact Upd.here | with_reducible assumption | with_reducible apply Upd.there))); (case hj => first | assumption | omega); clear H; (try clear W); intro W H) | ((with_reducible apply wpl_store1 H); (case hs => exact sz_sc _ rfl); (case hw => rfl); (case hx => rfl); (case hy => (first | exact (rfl : _ = Value.int _ _) | exact (rfl : _ = Value.bool _) | exact (rfl : _ = Value.slice _ _ _) | exact (rfl : _ = Value.pointer _) | exact (rfl : _ = Value.string _) | rfl)); (case hm => (repeat (first | with_reducible exact Upd.here | with_reducible assumption | with_reducible apply Upd.there))); (case h1 => rfl); (case hk => exact Nat.le_of_ble_eq_true rfl); clear H; (try clear W); intro W H; simp only [setL, List.set_cons_zero, List.set_cons_succ] at H) | ((with_reducible apply wpl_store H); (case hw => rfl); (case hx => rfl); (case hy => rfl); (case hm => (repeat (first | with_reducible exact Upd.here | with_reducible assumption | with_reducible apply Upd.there))); (case hs => exact sz_ag _ _ rfl); (case h1 => rfl); (case hk => exact Nat.le_of_ble_eq_true rfl); clear H; (try clear W); intro W H; first | rw [setL_whole rfl] at H | simp only [setL, List.set_cons_zero, List.set_cons_succ] at H))
  exact HK.out _ (rd_shut _ _ H Ho.out)
set_option maxRecDepth 100000 in
set_option maxHeartbeats 1000000 in
theorem rfuse_k (n : Int) (hn1 : -9223372036854775808 ≤ n) (hn2 : n ≤ 9223372036854775807) (H : Holds W L) (hm : Pull (rdE g v d) L L0) (k : ∀ w', Holds w' (rdE g v (d.fuse n) :: L0) → R (.returned (.int .i64 0)) w') : Calls Tryd.prog 22 #[.pointer (some ⟨g, 0, none⟩), .int .i64 n] W R := by
  obtain ⟨ho, H⟩ := rd_open (H.pull hm)
  clear hm
  have HK := Lib.hid k; clear k
  have Ho := Lib.hid ho
  clear ho
  have Hn : Hid ((if (-1 : Int) < n then n else -1) = clf n) := Lib.hid (by unfold clf; split <;> omega)
  have Hn2 : Hid ((max (-1 : Int) n) = clf n) := Lib.hid rfl
  go_enter Tryd.func22, Tryd.ntmps22
  go_wp2_with (first | go_big_skip | ((with_reducible refine wpl_absorb H ?_); clear H; (first  | generalize W.heap.size = q0); (try clear W); intro W H) | ((with_reducible refine wpl_drew H ?_); clear H; (try clear W); intro W H) | ((with_reducible refine wpl_drewN H ?_); clear H; (try clear W); intro W H) | ((with_reducible apply wpl_load H); (case hs => exact sc _ rfl); (case hw => rfl); (case hx => rfl); (case hm => (repeat (first | with_reducible exact mH | with_reducible assumption | with_reducible apply mT))); (case hv => rfl)) | ((with_reducible apply wpl_loadA H); (case hs => exact ag _ _ rfl); (case hw => rfl); (case hx => rfl); (case hm => (repeat (first | with_reducible exact mH | with_reducible assumption | with_reducible apply mT))); (case hv => rfl); (case hl => rfl); (try simp only [List.drop_zero, List.drop_succ_cons, List.take_succ_cons, List.take_zero, List.take_nil])) | ((with_reducible apply wpl_storeO H); (case hs => exact sz_sc _ rfl); (case hw => rfl); (case hx => rfl); (case hy => (first | exact (rfl : _ = Value.int _ _) | exact (rfl : _ = Value.bool _) | exact (rfl : _ = Value.slice _ _ _) | exact (rfl : _ = Value.pointer _) | exact (rfl : _ = Value.string _) | rfl)); (case h1 => rfl); (case hm => (repeat (first | with_reducible exact Upd.here | with_reducible assumption | with_reducible apply Upd.there))); (case hj => first | assumption | omega); clear H; (try clear W); intro W H) | ((with_reducible apply wpl_store1 H); (case hs => exact sz_sc _ rfl); (case hw => rfl); (case hx => rfl); (case hy => (first | exact (rfl : _ = Value.int _ _) | exact (rfl : _ = Value.bool _) | exact (rfl : _ = Value.slice _ _ _) | exact (rfl : _ = Value.pointer _) | exact (rfl : _ = Value.string _) | rfl)); (case hm => (repeat (first | with_reducible exact Upd.here | with_reducible assumption | with_reducible apply Upd.there))); (case h1 => rfl); (case hk => exact Nat.le_of_ble_eq_true rfl); clear H; (try clear W); intro W H; simp only [setL, List.set_cons_zero, List.set_cons_succ] at H) | ((with_reducible apply wpl_store H); (case hw => rfl); (case hx => rfl); (case hy => rfl); (case hm => (repeat (first | with_reducible exact Upd.here | with_reducible assumption | with_reducible apply Upd.there))); (case hs => exact sz_ag _ _ rfl); (case h1 => rfl); (case hk => exact Nat.le_of_ble_eq_true rfl); clear H; (try clear W); intro W H; first | rw [setL_whole rfl] at H | simp only [setL, List.set_cons_zero, List.set_cons_succ] at H) | (first | rw [Hn.out] | rw [Hn2.out]))
  have ho := Ho.out
  exact HK.out _ (rd_shut v (d.fuse n) H ⟨ho.n0, ho.n1, ho.nn, ho.sl, ho.wl, hn1, hn2⟩)
end
end Go.Proofs.YtaegjjaabeakoaaDoor
