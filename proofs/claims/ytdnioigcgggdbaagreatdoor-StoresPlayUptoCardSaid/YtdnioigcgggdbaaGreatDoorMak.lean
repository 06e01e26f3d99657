/-
  stores: read: the records that stand in some bytes.
  A range over an iterator, by entries: the loop's record and its block of deferred calls are entries too. Nothing of the program stands here.
  Operations behind a fence, by entries. Nothing of the program stands here.
-/
import Derived.Test.YtdnioigcgggdbaaGreatDoorMai
import Derived.Test.YtdnioigcgggdbaaGreatDoorFrM
import Derived.Test.YtdnioigcgggdbaaGreatDoorMah
import Derived.Test.YtdnioigcgggdbaaGreatDoorMag
set_option linter.unusedVariables false
set_option linter.unusedSimpArgs false
namespace Go.Proofs.YtdnioigcgggdbaaGreatDoor
open Go.RowKit
/-- the records that some bytes begin with, behind k of them, and how many sectors they take; f: more rounds than there are. -/
def readR : Nat → Nat → List UInt8 → List (List UInt8) × Nat
  | 0, _, _ => ([], 0)
  | f + 1, k, x => if fErr x = 0 ∧ fNum x = k + 1 then (fRec x :: (readR f (k + 1) (x.drop (secs (fMany x) * 64))).1, secs (fMany x) + (readR f (k + 1) (x.drop (secs (fMany x) * 64))).2) else ([], 0)
theorem run_sliceLo {w : World} {b o n c q : Nat} {lo : Int} {A' : Option Addr} (hA : A' = if c = q then some ⟨b, o, none⟩ else some ⟨b, o + q, none⟩) (hl : lo = (q : Int)) (h1 : q ≤ n) :
    (Instr.sliceAt 50 (.slice (some ⟨b, o, none⟩) n c) (some (.int .i64 lo)) none none).run Tryz.prog w = .ok (.slice A' (n - q) (c - q)) w := by
  subst hl hA
  have hu : Tryz.prog.underlying 50 = some (.slice (Tryz.prog.elem 50)) := by kernel_rfl
  have hs : ∀ w, (sizeOf (Tryz.prog.elem 50)).run Tryz.prog w = .ok 1 w := fun w => by kernel_rfl
  rw [run_sliceAt_slice _ _ _ _ _ _ hu, run_slice_l _ _ _ _ _ hu _ _ (by omega) (by omega), hs]
  simp only [Result.andThen, sliced, Int.toNat_natCast, Nat.mul_one, Option.map_some]
  rw [show (⟨b, o, none⟩ : Addr).add q = ⟨b, o + q, none⟩ by unfold Addr.add; split <;> simp_all]
theorem wpl_sliceLo {ops : Array Oper} {rest : List Oper} {a : Act} {w : World} {Q : Exit → Act → World → Prop} {dst : Option Tmp} {x s : Operand} {ty : TypeId} {pos : String} {after : Array Edge} {gd : Option (Nat × Bool)} (hw : Region.wanted ⟨dst, .slice 50 x (some s) none none, ty, pos, after, gd⟩ (yielded ops a.tmps) = true) {b o n c q : Nat} {lo : Int} {A' : Option Addr}
    (hx : a.eval x = .slice (some ⟨b, o, none⟩) n c) (hs : a.eval s = .int .i64 lo) (hA : A' = if c = q then some ⟨b, o, none⟩ else some ⟨b, o + q, none⟩) (hl : lo = (q : Int)) (h1 : q ≤ n)
    (hk : wpList Tryz.prog ops Q rest (a.put dst (.slice A' (n - q) (c - q))) w) : wpList Tryz.prog ops Q (⟨dst, .slice 50 x (some s) none none, ty, pos, after, gd⟩ :: rest) a w :=
  wpl_run hw (by
    unfold execOp
    simp only [hx, hs, Option.map_none, Option.map_some, Sem.run_bind, run_sliceLo hA hl h1, Result.andThen_ok, Sem.run_pure]) hk
theorem loA {w : World} {b o n c : Nat} {l : List UInt8} {A' : Option Addr} (lo : Nat) (hA : A' = if c = lo then some ⟨b, o, none⟩ else some ⟨b, o + lo, none⟩) (h1 : lo ≤ n) (hr : Rd w 1 (some ⟨b, o, none⟩) n c (bvs l)) : Rd w 1 A' (n - lo) (c - lo) (bvs (l.drop lo)) := by
  have := midA lo n hA h1 (Nat.le_refl _) hr
  rwa [List.take_of_length_le (Nat.le_of_eq hr.blen)] at this
section
variable {W : World} {L L' L0 L1 : List Ent} {R : Ending → World → Prop} {p g : Nat} {x0 x1 x2 : Value} {A : Option Addr} {n c : Nat} {x : List UInt8}
set_option maxRecDepth 100000 in
set_option maxHeartbeats 2000000 in
theorem sread_k (F : Nat) (hF : x.length < 64 * F) (hx6 : x.length ≤ 262144) (G : Gives L0 fun w => Rd w 1 A n c (bvs x)) (H : Holds W L) (hm : Pull (blk p [x0, x1, x2, .int .i64 0, .slice none 0 0] 76) L L0)
    (k : ∀ A c q w', Holds w' (blk p [x0, x1, x2, .int .i64 ((readR F 0 x).2 : Nat), .slice A (readR F 0 x).1.length c] 76 :: ownE 50 1 (.slice A (readR F 0 x).1.length c) (readR F 0 x).1.length (List.zipWith rh q (readR F 0 x).1) :: srsE q (readR F 0 x).1 :: L0) → R (.returned (.tuple #[])) w') :
    Calls Tryz.prog 38 #[.pointer (some ⟨p, 0, none⟩), .slice A n c] W R := by
  have H2 := H.pull hm
  clear H hm
  have H := srs_new (H2.add_nil 50 1)
  clear H2
  have HK := Lib.hid k; clear k
  go_enter Tryz.func38, Tryz.ntmps38
  go_wp2_with (first | go_big_skip )
  go_loopw [1] (fun all wr => ∃ (f k e : Nat) (pre : List (List UInt8)) (y : List UInt8) (Ay : Option Addr) (ny cy : Nat) (A : Option Addr) (c : Nat) (q : List (Option Addr × Nat)), all = .slice Ay ny cy ∧ y.length < 64 * f ∧ pre.length = k ∧ k ≤ e ∧ 64 * e + y.length = x.length ∧
    (readR F 0 x).1 = pre ++ (readR f k y).1 ∧ (readR F 0 x).2 = e + (readR f k y).2 ∧ (Gives L0 fun w => Rd w 1 Ay ny cy (bvs y)) ∧
    Holds wr (blk p [x0, x1, x2, .int .i64 (e : Int), .slice A k c] 76 :: ownE 50 1 (.slice A k c) k (List.zipWith rh q pre) :: srsE q pre :: L0)) (fun all _ => match all with | .slice _ n _ => n | _ => 0)
  case atStart => exact ⟨F, 0, 0, [], x, A, n, c, none, 0, [], rfl, hF, rfl, by omega, by omega, rfl, by rw [Nat.zero_add], G, Reord.use H (by rw [show ((0 : Nat) : Int) = 0 from rfl, List.zipWith_nil_left]; ((repeat (with_reducible apply Reord.cons; (case p => (with_reducible repeat first | exact Pull.here | apply Pull.there)))); repeat (with_reducible exact Reord.rest)))⟩
  case round =>
    clear H G
    obtain ⟨f, k, e, pre, y, Ay, ny, cy, A, c, q, rfl, hy, hk, hkx, hex, h1, h2, G, H⟩ := hrel
    rename World => W
    obtain ⟨f, rfl⟩ : ∃ f', f = f' + 1 := ⟨f - 1, by omega⟩
    have H1 := Lib.hid h1
    have H2 := Lib.hid h2
    have HG := Lib.hid G
    have Hk := Lib.hid hk
    clear h1 h2 hk
    by_cases he : fErr y = 0
    · obtain ⟨ho1, ho2, ho3⟩ := fErr_ok he
      have hs1 := secs_le (fMany y)
      have hs2 := secs_lt (fMany y)
      have hyl := (G W H.tail.tail.tail).blen
      have He := Lib.hid he
      obtain ⟨yb, yo, rfl, -⟩ := (G W H.tail.tail.tail).at_ (by omega)
      by_cases hnum : fNum y = k + 1
      · have HN := Lib.hid hnum
        have hr : readR (f + 1) k y = (fRec y :: (readR f (k + 1) (y.drop (secs (fMany y) * 64))).1, secs (fMany y) + (readR f (k + 1) (y.drop (secs (fMany y) * 64))).2) := by rw [readR, if_pos ⟨he, hnum⟩]
        have HR := Lib.hid hr
        have hrl : (fRec y).length = fMany y := by unfold fRec; rw [List.length_take, List.length_drop]; omega
        have Hrl := Lib.hid hrl
        obtain ⟨A', hA⟩ : ∃ A' : Option Addr, A' = if cy = secs (fMany y) * 64 then some ⟨yb, yo, none⟩ else some ⟨yb, yo + secs (fMany y) * 64, none⟩ := ⟨_, rfl⟩
        have HA := Lib.hid hA
        have G2 : Gives L0 fun w => Rd w 1 A' (ny - secs (fMany y) * 64) (cy - secs (fMany y) * 64) (bvs (y.drop (secs (fMany y) * 64))) := G.imp fun w h => loA _ hA (by omega) h
        have HG2 := Lib.hid G2
        have e1 := Lib.hid (wrapI (x := ((secs (fMany y) : Nat) : Int) * 64) (by omega) (by omega))
        clear he hnum hr hrl hA G2 G
        go_wp2_with (first | ((with_reducible refine wpl_absorb H ?_); clear H; (first  | generalize W.heap.size = q0); (try clear W); intro W H) | ((with_reducible apply wpl_load H); (case hs => exact sc _ rfl); (case hw | hx => rfl); (case hm => (with_reducible repeat first | exact mH | apply mT)); (case hv => rfl)) | ((with_reducible apply wpl_store1 H); (case hs => exact sz_sc _ rfl); (case hw | hx => rfl); (case hy => (first | exact (rfl : _ = Value.int _ _) | exact (rfl : _ = Value.slice _ _ _) )); (case hm => (with_reducible repeat first | exact Upd.here | apply Upd.there)); (case h1 => rfl); (case hk => exact Nat.le_of_ble_eq_true rfl); clear H; (try clear W); intro W H; simp only [setL, List.set_cons_zero, List.set_cons_succ] at H) | ((with_reducible apply fget_yes He.out); (case H => exact H); (case G => (repeat (first | exact HG.out | with_reducible apply Gives.cons))); clear H; (try clear W); intro ra rn rc W hrn H hrc; subst hrn; rw [HN.out]) | ((with_reducible apply wpl_app H); (case hw => rfl); (case ht => exact Tryz.underlying71); (case hinfo => exact inf_50); (case hs | hx => rfl); (case hm => (with_reducible repeat first | exact Pull.here | apply Pull.there)); (case hzs => rfl); (case hsz => decide); (case hr => exact gives_blk (by (with_reducible repeat first | exact mH)) rfl (by omega)); (case h1 => (intro u hu; obtain rfl := List.mem_singleton.1 hu; rfl)); (case h63 => (simp only [maxLen]; omega)); (case hbytes => omega); clear H; (try clear W); intro A1 n1 c1 W hn1 H hle1 htop1; obtain rfl := hn1.out; clear hn1) | ((with_reducible apply wpl_sliceLo (q := secs (fMany y) * 64)); (case hw | hx | hs => rfl); (case hA => exact HA.out); (case hl => first | rfl ); (case h1 => omega)))
        have hr := HR.out
        have hrl := Hrl.out
        have hql := srs_len (q := q) (ls := pre) H (by (with_reducible repeat first | exact mH | assumption | apply mT))
        have H3 : Holds W (ownE 5 1 (.slice ra (fMany y) rc) (fMany y) (bvs (fRec y)) :: srsE q pre :: blk p [x0, x1, x2, .int .i64 ((e : Int) + (secs (fMany y) : Int)), .slice A1 (k + 1) c1] 76 ::
          ownE 50 1 (.slice A1 (k + 1) c1) (k + 1) (List.zipWith rh q pre ++ [.slice ra (fMany y) (fMany y)]) :: L0) := Reord.use H (by ((repeat (with_reducible apply Reord.cons; (case p => (with_reducible repeat first | exact Pull.here | apply Pull.there)))); repeat (first | with_reducible exact Reord.rest | with_reducible apply Reord.drop)))
        have H4 := H3.to_row.clip
        have es : rowE 5 ra (fMany y) (fMany y) (bvs (fRec y)) = srE (ra, fMany y) (fRec y) := by unfold srE; rw [hrl]
        rw [es] at H4
        have H5 := srs_add H4
        have ez : List.zipWith rh q pre ++ [.slice ra (fMany y) (fMany y)] = List.zipWith rh (q ++ [(ra, fMany y)]) (pre ++ [fRec y]) := by
          rw [List.zipWith_append hql]
          unfold rh
          simp only [List.zipWith_cons_cons, List.zipWith_nil_left, hrl]
        rw [ez] at H5
        refine ⟨⟨f, k + 1, e + secs (fMany y), pre ++ [fRec y], y.drop (secs (fMany y) * 64), A', _, _, A1, c1, q ++ [(ra, fMany y)], rfl, ?_, ?_, ?_, ?_, ?_, ?_, HG2.out, ?_⟩, ?_⟩
        · rw [List.length_drop]; omega
        · rw [List.length_append, Hk.out]; rfl
        · have := secs_pos (fMany y); omega
        · rw [List.length_drop]; omega
        · rw [H1.out, hr, List.append_assoc]; rfl
        · rw [H2.out, hr, Nat.add_assoc]
        · exact Reord.use H5 (by rw [show (((e + secs (fMany y) : Nat)) : Int) = (e : Int) + (secs (fMany y) : Int) from by omega]; ((repeat (with_reducible apply Reord.cons; (case p => (with_reducible repeat first | exact Pull.here | apply Pull.there)))); repeat (with_reducible exact Reord.rest)))
        · have := secs_pos (fMany y)
          show ny - secs (fMany y) * 64 < ny
          omega
      · have HN : Hid ((((fNum y : Nat) : Int) == ((k : Nat) : Int) + 1) = false) := Lib.hid (by rw [beq_eq_false_iff_ne]; omega)
        have hr : readR (f + 1) k y = ([], 0) := by rw [readR, if_neg (fun h => hnum h.2)]
        have h1 := H1.out
        have h2 := H2.out
        rw [hr] at h1 h2
        simp only [List.append_nil, Nat.add_zero] at h1 h2
        have Hh1 := Lib.hid h1
        have Hh2 := Lib.hid h2
        have hnb := HN.out
        clear he hnum hr h1 h2
        go_wp2_with (first | ((with_reducible apply wpl_load H); (case hs => exact sc _ rfl); (case hw | hx => rfl); (case hm => (with_reducible repeat first | exact mH | apply mT)); (case hv => rfl)) | ((with_reducible apply fget_yes He.out); (case H => exact H); (case G => (repeat (first | exact HG.out | with_reducible apply Gives.cons))); clear H; (try clear W); intro ra rn rc W hrn H hrc; subst hrn))
        go_end0
        rw [Hh1.out, Hh2.out, Hk.out] at HK
        exact HK.out A c q _ (Reord.use H (by ((repeat (with_reducible apply Reord.cons; (case p => (with_reducible repeat first | exact Pull.here | apply Pull.there)))); repeat (first | with_reducible exact Reord.rest | with_reducible apply Reord.drop))))
    · have hr : readR (f + 1) k y = ([], 0) := by rw [readR, if_neg (fun h => he h.1)]
      have h1 := H1.out
      have h2 := H2.out
      rw [hr] at h1 h2
      simp only [List.append_nil, Nat.add_zero] at h1 h2
      have Hh1 := Lib.hid h1
      have Hh2 := Lib.hid h2
      have He := Lib.hid he
      have hne : (((fErr y : Nat) : Int) == 0) = false := by rw [beq_eq_false_iff_ne]; omega
      clear he hr h1 h2
      go_wp2_with (first | ((with_reducible apply fget_no rfl He.out); (case H => exact H); (case G => (repeat (first | exact HG.out | with_reducible apply Gives.cons))); clear H; (try clear W); intro W H))
      go_end0
      rw [Hh1.out, Hh2.out, Hk.out] at HK
      exact HK.out A c q _ (Reord.use H (by ((repeat (with_reducible apply Reord.cons; (case p => (with_reducible repeat first | exact Pull.here)))); repeat (with_reducible exact Reord.rest))))
end
end Go.Proofs.YtdnioigcgggdbaaGreatDoor
set_option linter.unusedVariables false
set_option linter.unusedSimpArgs false
namespace Go.Proofs.YtdnioigcgggdbaaGreatDoor
open Go.RowKit Go.Shelf

/-- block b is just this object. -/
def objE (b : Nat) (o : Obj) : Ent :=
  ⟨true, (· = b), fun w => w.heap[b]? = some o,
   fun w w' hk h => (hk.block b rfl (Array.getElem?_eq_some_iff.1 h).1).trans h,
   fun w h c hc => by obtain rfl : c = b := hc; exact (Array.getElem?_eq_some_iff.1 h).1⟩
theorem grown_kept {w w' : World} {b : Nat} (h : w.grownBy w' (some b)) : Kept (fun c => ¬ c = b) w w' := ⟨h.os, h.tape, h.output, h.size, fun k hk hlt => h.block k hlt (by intro e; injection e with e; exact hk e)⟩
theorem Holds.new_obj {w : World} {L : List Ent} (h : Holds w L) (o : Obj) : Holds (w.alloc o) (objE w.heap.size o :: L) :=
  h.new ((Ext.refl w).alloc _) (World.alloc_heap_new w o) fun b hb => Nat.le_of_eq (Eq.symm hb)
theorem Holds.put_obj {w : World} {L : List Ent} {b : Nat} {o : Obj} (H : Holds w (objE b o :: L)) (o' : Obj) : Holds (w.putObj b o') (objE b o' :: L) :=
  H.set rfl (grown_kept (grownBy_putObj' w b o')) (World.putObj_heap_same (Array.getElem?_eq_some_iff.1 H.head).1) fun c hc => .inl hc
def roundH {α : Type} (LJ : α → List Ent) (O : List Ent) : Exit → Act → World → Prop
  | .normal, _, W' => ∃ p, Holds W' (LJ p ++ O)
  | _, _, _ => False
theorem holds_mid {w : World} {a b c : List Ent} {e : Ent} (H : Holds w (a ++ e :: c)) : Holds w (e :: (a ++ c)) := H.perm List.perm_middle
theorem holds_mid' {w : World} {a c : List Ent} {e : Ent} (H : Holds w (e :: (a ++ c))) : Holds w (a ++ e :: c) := H.perm List.perm_middle.symm
theorem wpIn_rangeFunc_H {α β : Type} {F : Fence} {n : Nat} {P : Program} {g : Operand} {ps : Array Tmp} {assign body : Code} {Q : Exit → Act → World → Prop} {a : Act} {w : World}
    (hro : F.round = none) (h1 : 1 ≤ n) {gf : Nat} {lb : Array Value} (hg : a.eval g = .func (.func gf) #[] lb) (hFg : F.fn gf) (eg : ∀ args w, (callFunc gf args).run P w = .ok (.enter gf args) w)
    (LJ : Nat → α → List Ent) (LY : Nat → α → β → List Ent) (arg : Nat → α → β → Array Value) (more fin : Nat → Prop) (p0 : α) (hps : ∀ j p b, ps.size = (arg j p b).size)
    (H : Holds w (LJ 0 p0))
    (hseq : ∀ (l : Nat) (O : List Ent),
      (∀ j p b W, Holds W (LY j p b ++ O) → more j → YieldAt F (n - 1 - 1) P l (arg j p b) W fun e W' => e = .returned (.bool true) ∧ ∃ p', Holds W' (LJ (j + 1) p' ++ O)) →
      ∀ W, Holds W (LJ 0 p0 ++ O) → CallsIn F (n - 1) P gf (#[.func (.yield l) #[] #[]] ++ lb) W fun e W' => (∃ v, e = .returned v) ∧ ∃ j p, fin j ∧ Holds W' (LJ j p ++ O))
    (a₁ : Nat → α → β → Act)
    (hassign : ∀ (l j : Nat) (p : α) (b : β) (W : World) (K : Act → World → Prop), K (a₁ j p b) W →
      assign.wpIn (F.inRound l) (n - 1 - 1) P (Exit.then K (fun _ _ _ => False)) { tmps := (ps.zip (arg j p b)).foldl (fun t (p, v) => t.setIfInBounds p v) a.tmps, defers := [] } W)
    (hbody : ∀ (l j : Nat) (p : α) (b : β) (O : List Ent) (W : World), Holds W (LY j p b ++ O) → more j → body.wpIn (F.inRound l) (n - 1 - 1) P (roundH (LJ (j + 1)) O) (a₁ j p b) W)
    (hdone : ∀ (j : Nat) (p : α) (S : Nat) (O : List Ent) (W : World), fin j → Holds W (LJ j p ++ objE S (.deferred (some [])) :: O) → Q .normal { a with defers := { target := .collected S, args := #[] } :: a.defers } W) :
    (Code.rangeFunc g ps assign body).wpIn F n P Q a w := by
  refine wpIn_rangeFunc ?_
  intro fn hfn
  rw [hro]
  obtain ⟨S, hS⟩ : ∃ S, S = w.heap.size := ⟨_, rfl⟩
  obtain ⟨rec, hrec⟩ : ∃ rec : LoopState → Loop, rec = fun st => { state := st, pending := none, fn, tmps := a.tmps, params := ps, assign, body, defers := S } := ⟨_, rfl⟩
  obtain ⟨X, hX⟩ : ∃ X, X = w.alloc (.deferred (some [])) := ⟨_, rfl⟩
  have hXs : X.heap.size = S + 1 := by rw [hX, hS, World.size_alloc]
  obtain ⟨Y, hY⟩ : ∃ Y, Y = X.alloc (.loop (rec .ready)) := ⟨_, rfl⟩
  have HX : Holds X (objE S (.deferred (some [])) :: LJ 0 p0) := by rw [hX, hS]; exact H.new_obj _
  have HY : Holds Y (objE (S + 1) (.loop (rec .ready)) :: objE S (.deferred (some [])) :: LJ 0 p0) := by rw [hY, ← hXs]; exact HX.new_obj _
  refine ⟨S + 1, [{ target := .collected S, args := #[] }], Y, { target := .fn (.func gf) lb, args := #[.func (.yield (S + 1)) #[] #[]] }, Y, gf, #[.func (.yield (S + 1)) #[] #[]] ++ lb, Y, ?_, ?_, ?_, ?_, fun _ => h1, ?_⟩
  · rw [hY, hX, hrec, hS]
    exact run_enterLoop_outer _ _ _ _ _
  · simp only [resolve, hg]
    simp [go_sem]
  · intro f' hf'
    simp [Target.leads] at hf'
    subst hf'
    exact hFg
  · simp [invoke, go_sem, eg]
  · refine (hseq (S + 1) [objE (S + 1) (.loop (rec .ready)), objE S (.deferred (some []))] ?_ Y (HY.perm ?_)).mono ?_
    · intro j p b W HW hm
      have H2 := holds_mid (b := []) HW
      have hl := H2.head
      have hy := run_yield (P := P) (args := arg j p b) hl (by rw [hrec]; exact (hps j p b).symm)
      rw [hrec] at hy
      refine ⟨fn, _, assign, body, hy, roundIn_of_wpIn hfn (hassign _ j p b W _ ⟨_, run_beginRound hl (by rw [hrec]), ?_⟩)⟩
      obtain ⟨Z, hZ⟩ : ∃ Z, Z = W.putObj (S + 1) (.loop { rec .ready with state := .busy }) := ⟨_, rfl⟩
      rw [← hZ]
      have HZ : Holds Z (LY j p b ++ [objE (S + 1) (.loop { rec .ready with state := .busy }), objE S (.deferred (some []))]) := by rw [hZ]; exact holds_mid' (H2.put_obj _)
      refine wpIn_mono (hbody _ j p b _ Z HZ hm) ?_
      intro e a3 W3 hp
      cases e with
      | normal =>
        obtain ⟨p', H3⟩ := hp
        have H4 := holds_mid (b := []) H3
        have hl3 := H4.head
        have hr := run_endRound (P := P) none hl3
        refine ⟨_, _, hr, rfl, p', ?_⟩
        have H5 := holds_mid' (H4.put_obj (.loop { rec .ready with state := .ready }))
        rw [hrec] at H5 ⊢
        exact H5
      | ret => exact hp.elim
      | exit id => exact hp.elim
      | goto t => exact hp.elim
      | panic ch => exact hp.elim
      | outgrown => exact hp.elim
    · exact (List.perm_append_comm (l₁ := [objE (S + 1) (.loop (rec .ready)), objE S (.deferred (some []))]) (l₂ := LJ 0 p0))
    · rintro e W2 ⟨⟨v, rfl⟩, j, p, hm, H2⟩
      have H3 := holds_mid (b := []) H2
      have hl := H3.head
      refine ⟨none, _, by have := run_endLoop (P := P) hl (by rw [hrec]; simp); rw [hrec] at this; exact this, ?_⟩
      have H4 := H3.put_obj (.loop { rec .ready with state := .exhausted })
      have H5 : Holds (W2.putObj (S + 1) (.loop { rec .ready with state := .exhausted })) (LJ j p ++ objE S (.deferred (some [])) :: [objE (S + 1) (.loop { rec .ready with state := .exhausted })]) := H4.perm (by
        refine List.Perm.trans ?_ (List.Perm.append_left _ (List.Perm.swap _ _ _))
        exact List.perm_middle.symm)
      have := hdone j p S _ _ hm H5
      rw [hrec] at this
      exact this
end Go.Proofs.YtdnioigcgggdbaaGreatDoor
namespace Go.Proofs.YtdnioigcgggdbaaGreatDoor
open Go.RowKit Go.Shelf
attribute [local go_sem] Oper.semAt_some

section
variable {F : Fence} {f : Nat} {P : Program} {ops : Array Oper} {rest : List Oper} {a : Act} {w : World} {Q : Exit → Act → World → Prop} {dst : Option Tmp} {T : TypeId} {x y s : Operand} {ty : TypeId} {pos : String} {after : Array Edge} {L L' : List Ent}
theorem wplIn_load (H : Holds w L) {b k : Nat} (hx : a.eval x = .pointer (some ⟨b, k, none⟩)) {cs : List Value} {T' : TypeId} (hm : blk b cs T' ∈ L)
    (hs : Scalar P T) {v : Value} (hv : cs[k]? = some v) (h : wpListIn F f P ops Q rest (a.put dst v) w) : wpListIn F f P ops Q (⟨dst, .load T x, ty, pos, after, none⟩ :: rest) a w := by
  have hc : w.cell? ⟨b, k, none⟩ = some v := by rw [cell_of_row w b k _ T' (0, 0) (H.all _ hm)]; simpa using hv
  refine wpListIn_plain rfl fun K hK' => ?_
  unfold Oper.wpIn
  refine ⟨by simp [Oper.about], ?_⟩
  rw [Oper.semAt_plain F _ _ (by intro c hc'; cases hc')]
  have hr : (execOp a.eval ⟨dst, .load T x, ty, pos, after, none⟩).run P w = .ok (.value v) w := by
    unfold execOp
    simp [hx, Instr.loadAt, Instr.sureAddr, loadVar, run_isAgg_no hs, Sem.run_bind, hc, load, Sem.run]
  rw [hr]
  exact hK' _ _ h
theorem wplIn_store1 (H : Holds w L) {b k : Nat} (hx : a.eval x = .pointer (some ⟨b, k, none⟩)) {v : Value} (hy : a.eval y = v) (h1 : v.oneCell' = true)
    {cs : List Value} {T' : TypeId} (hm : Upd (blk b cs T') (blk b (setL cs k [v]) T') L L') (hs : SizeIs P T 1) (hk : k + 1 ≤ cs.length)
    (h : ∀ w', Holds w' L' → wpListIn F f P ops Q rest (a.put dst undef) w') : wpListIn F f P ops Q (⟨dst, .store T x y, ty, pos, after, none⟩ :: rest) a w := by
  have hb := H.all _ hm.mem
  have hy2 : (a.eval y).cells = [v].toArray := by rw [hy]; cases v <;> first | rfl | simp [Value.oneCell'] at h1
  have ht : w.there b k [v].toArray.size := fun j hj => by
    simp only [List.size_toArray, List.length_singleton] at hj
    refine ⟨?_, frozen_of_row w b (k + j) _ T' hb⟩
    rw [cell_of_row w b (k + j) _ T' (0, 0) hb]
    simp; omega
  have hr := run_storeVar_mid (P := P) w b k T [v].toArray ht (by unfold SizeIs at hs; simpa using hs) (by simp [h1])
  have he : ∀ A : Addr, storeVar T A (a.eval y) = storeVar T A (.agg [v].toArray) := fun A => by unfold storeVar; rw [hy2]; rfl
  refine wpListIn_plain rfl fun K hK' => ?_
  unfold Oper.wpIn
  refine ⟨by simp [Oper.about], ?_⟩
  rw [Oper.semAt_plain F _ _ (by intro c hc'; cases hc')]
  have hr2 : (execOp a.eval ⟨dst, .store T x y, ty, pos, after, none⟩).run P w = .ok .skip (w.setCells b k [v]) := by
    unfold execOp
    simp only [hx, Instr.storeAt, Instr.sureAddr, Sem.run_bind, Sem.run_pure, Result.andThen_ok, he, hr]
  rw [hr2]
  exact hK' _ _ (h _ (H.store hm))
theorem wplIn_app {t : TypeId} (H : Holds w L) {A : Option Addr} {n cap : Nat} (hs : a.eval s = .slice A n cap) {A2 : Option Addr} {m c : Nat} (hx : a.eval x = .slice A2 m c) {e : TypeId} {size : Nat} {xs : List Value} (hm : Pull (ownE e size (.slice A n cap) n xs) L L')
    {ys : List Value} (hr : Gives L fun w => Rd w size A2 m c ys) {z : Value} {bytes : Nat} (ht : P.underlying t = some (.slice e)) (hinfo : (P.info? e).map (fun i => (i.zero, i.size, i.bytes)) = some (some z, size, bytes))
    (hzs : z.cells.size = size) (hsz : 0 < size) (h1 : ∀ u ∈ ys, u.oneCell' = true) (h63 : n + m ≤ maxLen) (hbytes : (n + m) * bytes ≤ 140737488355328)
    (h : ∀ A' n' cap' w', Hid (n' = n + m) → Holds w' (ownE e size (.slice A' n' cap') n' (xs ++ ys) :: L') → n' ≤ cap' → cap' ≤ 9223372036854775807 → wpListIn F f P ops Q rest (a.put dst (.slice A' n' cap')) w') :
    wpListIn F f P ops Q (⟨dst, .call { callee := .builtin .append, args := #[s, x], argTypes := #[t, t] }, ty, pos, after, none⟩ :: rest) a w := by
  obtain ⟨i, hi, hz, hsize, hby⟩ := info_parts hinfo
  obtain ⟨A', n', cap', w', hrun, h2, h3, h4, h5⟩ := run_append_rd (P := P) 0 t ty e i z size bytes ht hi hz hsize hby hzs hsz (H.all _ hm.mem) (hr w H) h1 h63 hbytes (Nat.zero_le _)
  refine wpListIn_plain rfl fun K hK' => ?_
  unfold Oper.wpIn
  refine ⟨by simp [Oper.about, resolve, go_sem], ?_⟩
  rw [Oper.semAt_plain F _ _ (by intro c hc'; cases hc')]
  have hr2 : (execOp a.eval ⟨dst, .call { callee := .builtin .append, args := #[s, x], argTypes := #[t, t] }, ty, pos, after, none⟩).run P w = .ok (.value (.slice A' n' cap')) w' := by
    unfold execOp
    simp only [resolve, invoke, builtin, Sem.run_bind, Sem.run_pure, Result.andThen_ok, List.map_toArray, List.map_cons, List.map_nil, hs, hx, hrun]
  rw [hr2]
  exact hK' _ _ (h A' n' cap' w' h2 (H.grown hm h3 h4 h5) (own_le h3).1 (own_le h3).2)
theorem wplIn_slice1 {t e : TypeId} {z : Value} {size bytes : Nat} {vs : List Value} (H : Holds w L) (hx : (a.eval x).cells = vs.toArray) (ht : P.underlying t = some (.slice e)) (hinfo : (P.info? e).map (fun i => (i.zero, i.size, i.bytes)) = some (some z, size, bytes))
    (hzs : z.cells.size = size) (hl : vs.length = size) (h0 : 0 < size) (h24 : size ≤ 16777216) (h : ∀ b w', Holds w' (blk b vs e :: L) → wpListIn F f P ops Q rest (a.put dst (.slice (some ⟨b, 0, none⟩) 1 1)) w') :
    wpListIn F f P ops Q (⟨dst, .buildSlice t 1 #[(0, x)], ty, pos, after, none⟩ :: rest) a w := by
  have hr := run_slice1 (P := P) (w := w) hx ht hinfo hzs hl h0 h24
  refine wpListIn_plain rfl fun K hK' => ?_
  unfold Oper.wpIn
  refine ⟨by simp [Oper.about], ?_⟩
  rw [Oper.semAt_plain F _ _ (by intro c hc'; cases hc')]
  have hr2 : (execOp a.eval ⟨dst, .buildSlice t 1 #[(0, x)], ty, pos, after, none⟩).run P w = .ok (.value (.slice (some ⟨w.heap.size, 0, none⟩) 1 1)) (w.alloc (.cells vs.toArray e)) := by
    unfold execOp
    simp only [List.map_toArray, List.map_cons, List.map_nil, Sem.run_bind, hr, Result.andThen_ok, Sem.run_pure]
  rw [hr2]
  exact hK' _ _ (h _ _ (H.alloc vs e))
end
end Go.Proofs.YtdnioigcgggdbaaGreatDoor
