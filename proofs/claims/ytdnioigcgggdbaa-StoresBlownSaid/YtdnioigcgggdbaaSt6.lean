/-
  stores: read: the records that stand in some bytes.
-/
import Derived.Test.YtdnioigcgggdbaaStm1
import Derived.Test.YtdnioigcgggdbaaFrM
set_option linter.unusedVariables false
set_option linter.unusedSimpArgs false
namespace Go.Proofs.Ytdnioigcgggdbaa
open Go.RowKit
/-- the records that some bytes begin with, behind k of them, and how many sectors they take; f: more rounds than there are. -/
def readR : Nat → Nat → List UInt8 → List (List UInt8) × Nat
  | 0, _, _ => ([], 0)
  | f + 1, k, x => if fErr x = 0 ∧ fNum x = k + 1 then (fRec x :: (readR f (k + 1) (x.drop (secs (fMany x) * 64))).1, secs (fMany x) + (readR f (k + 1) (x.drop (secs (fMany x) * 64))).2) else ([], 0)
theorem run_sliceLo {w : World} {b o n c q : Nat} {lo : Int} {A' : Option Addr} (hA : A' = if c = q then some ⟨b, o, none⟩ else some ⟨b, o + q, none⟩) (hl : lo = (q : Int)) (h1 : q ≤ n) :
    (Instr.sliceAt 22 (.slice (some ⟨b, o, none⟩) n c) (some (.int .i64 lo)) none none).run Try.prog w = .ok (.slice A' (n - q) (c - q)) w := by
  subst hl hA
  have hu : Try.prog.underlying 22 = some (.slice (Try.prog.elem 22)) := by kernel_rfl
  have hs : ∀ w, (sizeOf (Try.prog.elem 22)).run Try.prog w = .ok 1 w := fun w => by kernel_rfl
  rw [run_sliceAt_slice _ _ _ _ _ _ hu, run_slice_l _ _ _ _ _ hu _ _ (by omega) (by omega), hs]
  simp only [Result.andThen, sliced, Int.toNat_natCast, Nat.mul_one, Option.map_some]
  rw [show (⟨b, o, none⟩ : Addr).add q = ⟨b, o + q, none⟩ by unfold Addr.add; split <;> simp_all]
theorem wpl_sliceLo {ops : Array Oper} {rest : List Oper} {a : Act} {w : World} {Q : Exit → Act → World → Prop} {dst : Option Tmp} {x s : Operand} {ty : TypeId} {pos : String} {after : Array Edge} {gd : Option (Nat × Bool)} (hw : Region.wanted ⟨dst, .slice 22 x (some s) none none, ty, pos, after, gd⟩ (yielded ops a.tmps) = true) {b o n c q : Nat} {lo : Int} {A' : Option Addr}
    (hx : a.eval x = .slice (some ⟨b, o, none⟩) n c) (hs : a.eval s = .int .i64 lo) (hA : A' = if c = q then some ⟨b, o, none⟩ else some ⟨b, o + q, none⟩) (hl : lo = (q : Int)) (h1 : q ≤ n)
    (hk : wpList Try.prog ops Q rest (a.put dst (.slice A' (n - q) (c - q))) w) : wpList Try.prog ops Q (⟨dst, .slice 22 x (some s) none none, ty, pos, after, gd⟩ :: rest) a w :=
  wpl_run hw (by
    unfold execOp
    simp only [hx, hs, Option.map_none, Option.map_some, Sem.run_bind, run_sliceLo hA hl h1, Result.andThen_ok, Sem.run_pure]) hk
theorem loA {w : World} {b o n c : Nat} {l : List UInt8} {A' : Option Addr} (lo : Nat) (hA : A' = if c = lo then some ⟨b, o, none⟩ else some ⟨b, o + lo, none⟩) (h1 : lo ≤ n) (hr : Rd w 1 (some ⟨b, o, none⟩) n c (bvs l)) : Rd w 1 A' (n - lo) (c - lo) (bvs (l.drop lo)) := by
  have := midA lo n hA h1 (Nat.le_refl _) hr
  rwa [List.take_of_length_le (Nat.le_of_eq hr.blen)] at this
section
variable {W : World} {L L' L0 L1 : List Ent} {R : Ending → World → Prop} {p g : Nat} {x0 x1 x2 : Value} {A : Option Addr} {n c : Nat} {x : List UInt8}
set_option maxRecDepth 100000 in
set_option maxHeartbeats 2000000 in
theorem sread_k (F : Nat) (hF : x.length < 64 * F) (hx6 : x.length ≤ 262144) (G : Gives L0 fun w => Rd w 1 A n c (bvs x)) (H : Holds W L) (hm : Pull (blk p [x0, x1, x2, .int .i64 0, .slice none 0 0] 27) L L0)
    (k : ∀ A c q w', Holds w' (blk p [x0, x1, x2, .int .i64 ((readR F 0 x).2 : Nat), .slice A (readR F 0 x).1.length c] 27 :: ownE 22 1 (.slice A (readR F 0 x).1.length c) (readR F 0 x).1.length (List.zipWith rh q (readR F 0 x).1) :: srsE q (readR F 0 x).1 :: L0) → R (.returned (.tuple #[])) w') :
    Calls Try.prog 37 #[.pointer (some ⟨p, 0, none⟩), .slice A n c] W R := by
  have H2 := H.pull hm
  clear H hm
  have H := srs_new (H2.add_nil 22 1)
  clear H2
  have HK := Lib.hid k; clear k
  go_enter Try.func37, Try.ntmps37
  go_wp2_with (first | go_big_skip | ((with_reducible refine wpl_absorb H ?_); clear H; (first  | generalize W.heap.size = q0); (try clear W); intro W H) | ((with_reducible refine wpl_drew H ?_); clear H; (try clear W); intro W H) | ((with_reducible refine wpl_drewN H ?_); clear H; (try clear W); intro W H) | ((with_reducible apply wpl_load H); (case hs => exact sc _ rfl); (case hw => rfl); (case hx => rfl); (case hm => (repeat (first | with_reducible exact mH | with_reducible assumption | with_reducible apply mT))); (case hv => rfl)) | ((with_reducible apply wpl_store1 H); (case hs => exact sz_sc _ rfl); (case hw => rfl); (case hx => rfl); (case hy => (first | exact (rfl : _ = Value.int _ _) | exact (rfl : _ = Value.bool _) | exact (rfl : _ = Value.slice _ _ _) | exact (rfl : _ = Value.pointer _) | exact (rfl : _ = Value.string _) | rfl)); (case hm => (repeat (first | with_reducible exact Upd.here | with_reducible assumption | with_reducible apply Upd.there))); (case h1 => rfl); (case hk => exact Nat.le_of_ble_eq_true rfl); clear H; (try clear W); intro W H; simp only [setL, List.set_cons_zero, List.set_cons_succ] at H))
  go_loopw [1] (fun all wr => ∃ (f k e : Nat) (pre : List (List UInt8)) (y : List UInt8) (Ay : Option Addr) (ny cy : Nat) (A : Option Addr) (c : Nat) (q : List (Option Addr × Nat)), all = .slice Ay ny cy ∧ y.length < 64 * f ∧ pre.length = k ∧ k ≤ e ∧ 64 * e + y.length = x.length ∧
    (readR F 0 x).1 = pre ++ (readR f k y).1 ∧ (readR F 0 x).2 = e + (readR f k y).2 ∧ (Gives L0 fun w => Rd w 1 Ay ny cy (bvs y)) ∧
    Holds wr (blk p [x0, x1, x2, .int .i64 (e : Int), .slice A k c] 27 :: ownE 22 1 (.slice A k c) k (List.zipWith rh q pre) :: srsE q pre :: L0)) (fun all _ => match all with | .slice _ n _ => n | _ => 0)
  case atStart => exact ⟨F, 0, 0, [], x, A, n, c, none, 0, [], rfl, hF, rfl, by omega, by omega, rfl, by rw [Nat.zero_add], G, Reord.use H (by rw [show ((0 : Nat) : Int) = 0 from rfl, List.zipWith_nil_left]; ((repeat (with_reducible apply Reord.cons; (case p => (repeat (first | with_reducible exact Pull.here | with_reducible apply Pull.there))))); repeat (first | with_reducible exact Reord.rest | with_reducible apply Reord.drop)))⟩
  case round =>
    clear H G
    obtain ⟨f, k, e, pre, y, Ay, ny, cy, A, c, q, rfl, hy, hk, hkx, hex, h1, h2, G, H⟩ := hrel
    rename World => W
    obtain ⟨f, rfl⟩ : ∃ f', f = f' + 1 := ⟨f - 1, by omega⟩
    have H1 := Lib.hid h1
    have H2 := Lib.hid h2
    have HG := Lib.hid G
    have Hk := Lib.hid hk
    clear h1 h2 hk
    by_cases he : fErr y = 0
    · obtain ⟨ho1, ho2, ho3⟩ := fErr_ok he
      have hs1 := secs_le (fMany y)
      have hs2 := secs_lt (fMany y)
      have hyl := (G W H.tail.tail.tail).blen
      have He := Lib.hid he
      obtain ⟨yb, yo, rfl, -⟩ := (G W H.tail.tail.tail).at_ (by omega)
      by_cases hnum : fNum y = k + 1
      · have HN := Lib.hid hnum
        have hr : readR (f + 1) k y = (fRec y :: (readR f (k + 1) (y.drop (secs (fMany y) * 64))).1, secs (fMany y) + (readR f (k + 1) (y.drop (secs (fMany y) * 64))).2) := by rw [readR, if_pos ⟨he, hnum⟩]
        have HR := Lib.hid hr
        have hrl : (fRec y).length = fMany y := by unfold fRec; rw [List.length_take, List.length_drop]; omega
        have Hrl := Lib.hid hrl
        obtain ⟨A', hA⟩ : ∃ A' : Option Addr, A' = if cy = secs (fMany y) * 64 then some ⟨yb, yo, none⟩ else some ⟨yb, yo + secs (fMany y) * 64, none⟩ := ⟨_, rfl⟩
        have HA := Lib.hid hA
        have G2 : Gives L0 fun w => Rd w 1 A' (ny - secs (fMany y) * 64) (cy - secs (fMany y) * 64) (bvs (y.drop (secs (fMany y) * 64))) := G.imp fun w h => loA _ hA (by omega) h
        have HG2 := Lib.hid G2
        have e1 := Lib.hid (wrapI (x := ((secs (fMany y) : Nat) : Int) * 64) (by omega) (by omega))
        clear he hnum hr hrl hA G2 G
        go_wp2_with (first | go_big_skip | ((with_reducible refine wpl_absorb H ?_); clear H; (first  | generalize W.heap.size = q0); (try clear W); intro W H) | ((with_reducible refine wpl_drew H ?_); clear H; (try clear W); intro W H) | ((with_reducible refine wpl_drewN H ?_); clear H; (try clear W); intro W H) | ((with_reducible apply wpl_load H); (case hs => exact sc _ rfl); (case hw => rfl); (case hx => rfl); (case hm => (repeat (first | with_reducible exact mH | with_reducible assumption | with_reducible apply mT))); (case hv => rfl)) | ((with_reducible apply wpl_store1 H); (case hs => exact sz_sc _ rfl); (case hw => rfl); (case hx => rfl); (case hy => (first | exact (rfl : _ = Value.int _ _) | exact (rfl : _ = Value.bool _) | exact (rfl : _ = Value.slice _ _ _) | exact (rfl : _ = Value.pointer _) | exact (rfl : _ = Value.string _) | rfl)); (case hm => (repeat (first | with_reducible exact Upd.here | with_reducible assumption | with_reducible apply Upd.there))); (case h1 => rfl); (case hk => exact Nat.le_of_ble_eq_true rfl); clear H; (try clear W); intro W H; simp only [setL, List.set_cons_zero, List.set_cons_succ] at H) | ((with_reducible apply fget_yes He.out); (case H => exact H); (case G => (repeat (first | exact HG.out | with_reducible apply Gives.cons))); clear H; (try clear W); intro ra rn rc W hrn H hrc; subst hrn; rw [HN.out]) | ((with_reducible apply wpl_app H); (case hw => rfl); (case ht => exact Try.underlying25); (case hinfo => exact inf_22); (case hs => rfl); (case hx => rfl); (case hm => (repeat (first | with_reducible exact Pull.here | with_reducible apply Pull.there))); (case hzs => rfl); (case hsz => decide); (case hr => exact gives_blk (by (repeat (first | with_reducible exact mH | with_reducible assumption | with_reducible apply mT))) rfl (by omega)); (case h1 => (intro u hu; obtain rfl := List.mem_singleton.1 hu; rfl)); (case h63 => (simp only [maxLen]; omega)); (case hbytes => omega); clear H; (try clear W); intro A1 n1 c1 W hn1 H hle1 htop1; obtain rfl := hn1.out; clear hn1) | ((with_reducible apply wpl_sliceLo (q := secs (fMany y) * 64)); (case hw => rfl); (case hx => rfl); (case hs => rfl); (case hA => exact HA.out); (case hl => first | rfl | (rw [e1.out]; omega) | omega); (case h1 => omega)))
        have hr := HR.out
        have hrl := Hrl.out
        have hql := srs_len (q := q) (ls := pre) H (by (repeat (first | with_reducible exact mH | with_reducible assumption | with_reducible apply mT)))
        have H3 : Holds W (ownE 5 1 (.slice ra (fMany y) rc) (fMany y) (bvs (fRec y)) :: srsE q pre :: blk p [x0, x1, x2, .int .i64 ((e : Int) + (secs (fMany y) : Int)), .slice A1 (k + 1) c1] 27 ::
          ownE 22 1 (.slice A1 (k + 1) c1) (k + 1) (List.zipWith rh q pre ++ [.slice ra (fMany y) (fMany y)]) :: L0) := Reord.use H (by ((repeat (with_reducible apply Reord.cons; (case p => (repeat (first | with_reducible exact Pull.here | with_reducible apply Pull.there))))); repeat (first | with_reducible exact Reord.rest | with_reducible apply Reord.drop)))
        have H4 := H3.to_row.clip
        have es : rowE 5 ra (fMany y) (fMany y) (bvs (fRec y)) = srE (ra, fMany y) (fRec y) := by unfold srE; rw [hrl]
        rw [es] at H4
        have H5 := srs_add H4
        have ez : List.zipWith rh q pre ++ [.slice ra (fMany y) (fMany y)] = List.zipWith rh (q ++ [(ra, fMany y)]) (pre ++ [fRec y]) := by
          rw [List.zipWith_append hql]
          unfold rh
          simp only [List.zipWith_cons_cons, List.zipWith_nil_left, hrl]
        rw [ez] at H5
        refine ⟨⟨f, k + 1, e + secs (fMany y), pre ++ [fRec y], y.drop (secs (fMany y) * 64), A', _, _, A1, c1, q ++ [(ra, fMany y)], rfl, ?_, ?_, ?_, ?_, ?_, ?_, HG2.out, ?_⟩, ?_⟩
        · rw [List.length_drop]; omega
        · rw [List.length_append, Hk.out]; rfl
        · have := secs_pos (fMany y); omega
        · rw [List.length_drop]; omega
        · rw [H1.out, hr, List.append_assoc]; rfl
        · rw [H2.out, hr, Nat.add_assoc]
        · exact Reord.use H5 (by rw [show (((e + secs (fMany y) : Nat)) : Int) = (e : Int) + (secs (fMany y) : Int) from by omega]; ((repeat (with_reducible apply Reord.cons; (case p => (repeat (first | with_reducible exact Pull.here | with_reducible apply Pull.there))))); repeat (first | with_reducible exact Reord.rest | with_reducible apply Reord.drop)))
        · have := secs_pos (fMany y)
          show ny - secs (fMany y) * 64 < ny
          omega
      · have HN : Hid ((((fNum y : Nat) : Int) == ((k : Nat) : Int) + 1) = false) := Lib.hid (by rw [beq_eq_false_iff_ne]; omega)
        have hr : readR (f + 1) k y = ([], 0) := by rw [readR, if_neg (fun h => hnum h.2)]
        have h1 := H1.out
        have h2 := H2.out
        rw [hr] at h1 h2
        simp only [List.append_nil, Nat.add_zero] at h1 h2
        have Hh1 := Lib.hid h1
        have Hh2 := Lib.hid h2
        have hnb := HN.out
        clear he hnum hr h1 h2
        go_wp2_with (first | go_big_skip | ((with_reducible refine wpl_absorb H ?_); clear H; (first  | generalize W.heap.size = q0); (try clear W); intro W H) | ((with_reducible refine wpl_drew H ?_); clear H; (try clear W); intro W H) | ((with_reducible refine wpl_drewN H ?_); clear H; (try clear W); intro W H) | ((with_reducible apply wpl_load H); (case hs => exact sc _ rfl); (case hw => rfl); (case hx => rfl); (case hm => (repeat (first | with_reducible exact mH | with_reducible assumption | with_reducible apply mT))); (case hv => rfl)) | ((with_reducible apply wpl_store1 H); (case hs => exact sz_sc _ rfl); (case hw => rfl); (case hx => rfl); (case hy => (first | exact (rfl : _ = Value.int _ _) | exact (rfl : _ = Value.bool _) | exact (rfl : _ = Value.slice _ _ _) | exact (rfl : _ = Value.pointer _) | exact (rfl : _ = Value.string _) | rfl)); (case hm => (repeat (first | with_reducible exact Upd.here | with_reducible assumption | with_reducible apply Upd.there))); (case h1 => rfl); (case hk => exact Nat.le_of_ble_eq_true rfl); clear H; (try clear W); intro W H; simp only [setL, List.set_cons_zero, List.set_cons_succ] at H) | ((with_reducible apply fget_yes He.out); (case H => exact H); (case G => (repeat (first | exact HG.out | with_reducible apply Gives.cons))); clear H; (try clear W); intro ra rn rc W hrn H hrc; subst hrn))
        go_end0
        rw [Hh1.out, Hh2.out, Hk.out] at HK
        exact HK.out A c q _ (Reord.use H (by ((repeat (with_reducible apply Reord.cons; (case p => (repeat (first | with_reducible exact Pull.here | with_reducible apply Pull.there))))); repeat (first | with_reducible exact Reord.rest | with_reducible apply Reord.drop))))
    · have hr : readR (f + 1) k y = ([], 0) := by rw [readR, if_neg (fun h => he h.1)]
      have h1 := H1.out
      have h2 := H2.out
      rw [hr] at h1 h2
      simp only [List.append_nil, Nat.add_zero] at h1 h2
      have Hh1 := Lib.hid h1
      have Hh2 := Lib.hid h2
      have He := Lib.hid he
      have hne : (((fErr y : Nat) : Int) == 0) = false := by rw [beq_eq_false_iff_ne]; omega
      clear he hr h1 h2
      go_wp2_with (first | go_big_skip | ((with_reducible refine wpl_absorb H ?_); clear H; (first  | generalize W.heap.size = q0); (try clear W); intro W H) | ((with_reducible refine wpl_drew H ?_); clear H; (try clear W); intro W H) | ((with_reducible refine wpl_drewN H ?_); clear H; (try clear W); intro W H) | ((with_reducible apply wpl_load H); (case hs => exact sc _ rfl); (case hw => rfl); (case hx => rfl); (case hm => (repeat (first | with_reducible exact mH | with_reducible assumption | with_reducible apply mT))); (case hv => rfl)) | ((with_reducible apply wpl_store1 H); (case hs => exact sz_sc _ rfl); (case hw => rfl); (case hx => rfl); (case hy => (first | exact (rfl : _ = Value.int _ _) | exact (rfl : _ = Value.bool _) | exact (rfl : _ = Value.slice _ _ _) | exact (rfl : _ = Value.pointer _) | exact (rfl : _ = Value.string _) | rfl)); (case hm => (repeat (first | with_reducible exact Upd.here | with_reducible assumption | with_reducible apply Upd.there))); (case h1 => rfl); (case hk => exact Nat.le_of_ble_eq_true rfl); clear H; (try clear W); intro W H; simp only [setL, List.set_cons_zero, List.set_cons_succ] at H) | ((with_reducible apply fget_no rfl He.out); (case H => exact H); (case G => (repeat (first | exact HG.out | with_reducible apply Gives.cons))); clear H; (try clear W); intro W H))
      go_end0
      rw [Hh1.out, Hh2.out, Hk.out] at HK
      exact HK.out A c q _ (Reord.use H (by ((repeat (with_reducible apply Reord.cons; (case p => (repeat (first | with_reducible exact Pull.here | with_reducible apply Pull.there))))); repeat (first | with_reducible exact Reord.rest | with_reducible apply Reord.drop))))
end
end Go.Proofs.Ytdnioigcgggdbaa
