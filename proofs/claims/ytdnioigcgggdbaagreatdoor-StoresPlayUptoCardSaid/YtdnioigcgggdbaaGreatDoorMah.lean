/-
  sums: On, Of.
  Contracts of Clone, Clip, Grow, Concat at bytes (as XNums4, without the package nums' rows).
-/
import Derived.Test.YtdnioigcgggdbaaGreatDoorFr4
import Derived.Test.YtdnioigcgggdbaaGreatDoorNumM
import Derived.Lib.AppendZerosOnto
set_option linter.unusedVariables false
set_option linter.unusedSimpArgs false
namespace Go.Proofs.YtdnioigcgggdbaaGreatDoor
open Go.RowKit Go.Shelf
attribute [local go_sem] Oper.semAt_some

section
variable {F : Fence} {f : Nat} {P : Program} {ops : Array Oper} {rest : List Oper} {a : Act} {w : World} {Q : Exit → Act → World → Prop} {dst : Option Tmp} {T : TypeId} {x y : Operand} {ty : TypeId} {pos : String} {after : Array Edge}
/-- a load of a row of cells, behind a fence. -/
theorem wplIn_loadA {b k : Nat} (hx : a.eval x = .pointer (some ⟨b, k, none⟩)) {vs : List Value} {n : Nat} (hc : w.rangeAt b k vs) (hs : AggOf P T n) (hl : vs.length = n) (h : wpListIn F f P ops Q rest (a.put dst (.agg vs.toArray)) w) :
    wpListIn F f P ops Q (⟨dst, .load T x, ty, pos, after, none⟩ :: rest) a w := by
  obtain ⟨⟨d, hd, hr⟩, hi⟩ := aggB_spec hs
  refine wpListIn_plain rfl fun K hK' => ?_
  unfold Oper.wpIn
  refine ⟨by simp [Oper.about], ?_⟩
  rw [Oper.semAt_plain F _ _ (by intro c hc'; cases hc')]
  simp only [execOp, hx, Sem.run_bind, run_loadAt_mid w b k T vs d hc hd hr (by rw [hi, hl]), Sem.run_pure, Result.andThen_ok]
  exact hK' _ _ h
/-- a store of a row of cells that is the whole block. -/
theorem wplIn_storeA {b : Nat} (hx : a.eval x = .pointer (some ⟨b, 0, none⟩)) {cs vs : List Value} {T' : TypeId} (hy : a.eval y = .agg vs.toArray) (hb : w.heap[b]? = some (.cells cs.toArray T' (0, 0))) (hs : SizeIs P T vs.length) (h1 : vs.all (·.oneCell') = true) (hk : vs.length = cs.length)
    (h : ∀ w', w'.heap[b]? = some (.cells vs.toArray T' (0, 0)) → w.grownBy w' (some b) → wpListIn F f P ops Q rest (a.put dst undef) w') : wpListIn F f P ops Q (⟨dst, .store T x y, ty, pos, after, none⟩ :: rest) a w := by
  have ht : w.there b 0 vs.toArray.size := fun j hj => by
    simp only [List.size_toArray] at hj
    refine ⟨?_, frozen_of_row w b (0 + j) _ T' hb⟩
    rw [cell_of_row w b (0 + j) _ T' (0, 0) hb]
    simp; omega
  have hr := run_storeVar_mid (P := P) w b 0 T vs.toArray ht (by unfold SizeIs at hs; simpa using hs) (by simpa using h1)
  refine wpListIn_plain rfl fun K hK' => ?_
  unfold Oper.wpIn
  refine ⟨by simp [Oper.about], ?_⟩
  rw [Oper.semAt_plain F _ _ (by intro c hc'; cases hc')]
  simp only [execOp, hx, hy, Instr.storeAt, Instr.sureAddr, Sem.run_bind, Sem.run_pure, Result.andThen_ok, hr]
  have hb2 := blk_setCells vs 0 cs w hb
  rw [setL_whole hk] at hb2
  have hk0 := kept_setCells (b := b) vs 0 w (.refl _ w)
  exact hK' _ _ (h _ hb2 ⟨hk0.os, hk0.tape, hk0.output, hk0.size, fun k hk1 hne => hk0.block k (fun e => hne (by rw [e])) hk1⟩)
end
/-- what a round must keep: the iterator's box, and whatever was made behind the loop's beginning. -/
def SameFrom (B S : Nat) (W W' : World) : Prop := W.heap.size ≤ W'.heap.size ∧ ∀ k, k = B ∨ S ≤ k → k < W.heap.size → W'.heap[k]? = W.heap[k]?
def roundOk (B S : Nat) (I : World → Prop) (W : World) : Exit → Act → World → Prop
  | .normal, _, W' => SameFrom B S W W' ∧ I W'
  | _, _, _ => False
/-- a loop over an iterator whose state lies in a box that was made ahead of the loop, and that it writes. -/
theorem wpIn_rangeFunc_box {F : Fence} {n : Nat} {P : Program} {g : Operand} {ps : Array Tmp} {assign body : Code} {Q : Exit → Act → World → Prop} {a : Act} {w : World}
    (hro : F.round = none) (h1 : 1 ≤ n) {gf : Nat} {lb : Array Value} (hg : a.eval g = .func (.func gf) #[] lb) (hFg : F.fn gf) (eg : ∀ args w, (callFunc gf args).run P w = .ok (.enter gf args) w)
    {B : Nat} (hB : B < w.heap.size) (arg : Nat → Value) (more : Nat → Prop) (hps : ps.size = 1)
    (hseq : ∀ (l : Nat) (J : Nat → World → Prop) (W : World), (∀ j W W', J j W → W.grownBy W' (some B) → J j W') →
      (∀ j W, J j W → more j → YieldAt F (n - 1 - 1) P l #[arg j] W fun e W' => e = .returned (.bool true) ∧ J (j + 1) W' ∧ W'.heap[B]? = W.heap[B]?) →
      W.heap[B]? = w.heap[B]? → J 0 W → CallsIn F (n - 1) P gf (#[.func (.yield l) #[] #[]] ++ lb) W fun e W' => (∃ v, e = .returned v) ∧ ∃ j, ¬ more j ∧ J j W')
    (I : Nat → World → Prop) (hI : ∀ j W W' r, I j W → W.grownBy W' (some r) → r = B ∨ w.heap.size ≤ r → I j W') (h0 : I 0 w) (a₁ : Nat → Act)
    (hassign : ∀ (l j : Nat) (W : World) (K : Act → World → Prop), K (a₁ j) W →
      assign.wpIn (F.inRound l) (n - 1 - 1) P (Exit.then K (fun _ _ _ => False)) { tmps := (ps.zip #[arg j]).foldl (fun t (p, v) => t.setIfInBounds p v) a.tmps, defers := [] } W)
    (hbody : ∀ (l j : Nat) (W : World), I j W → more j → body.wpIn (F.inRound l) (n - 1 - 1) P (roundOk B w.heap.size (I (j + 1)) W) (a₁ j) W)
    (hdone : ∀ (j : Nat) (W : World), ¬ more j → I j W → W.heap[w.heap.size]? = some (.deferred (some [])) → Q .normal { a with defers := { target := .collected w.heap.size, args := #[] } :: a.defers } W) :
    (Code.rangeFunc g ps assign body).wpIn F n P Q a w := by
  refine wpIn_rangeFunc ?_
  intro fn hfn
  rw [hro]
  obtain ⟨S, hS⟩ : ∃ S, S = w.heap.size := ⟨_, rfl⟩
  obtain ⟨rec, hrec⟩ : ∃ rec : LoopState → Loop, rec = fun st => { state := st, pending := none, fn, tmps := a.tmps, params := ps, assign, body, defers := S } := ⟨_, rfl⟩
  obtain ⟨X, hX⟩ : ∃ X, X = w.alloc (.deferred (some [])) := ⟨_, rfl⟩
  have hXs : X.heap.size = S + 1 := by rw [hX, hS, World.size_alloc]
  obtain ⟨Y, hY⟩ : ∃ Y, Y = X.alloc (.loop (rec .ready)) := ⟨_, rfl⟩
  have hYl : Y.heap[S + 1]? = some (.loop (rec .ready)) := by rw [hY, ← hXs]; exact World.alloc_heap_new X _
  have hYd : Y.heap[S]? = some (.deferred (some [])) := by
    rw [hY]
    refine (Below.heap_alloc _ _ _ (by omega)).trans ?_
    rw [hX, hS]
    exact World.alloc_heap_new w _
  have hYB : Y.heap[B]? = w.heap[B]? := by
    rw [hY]
    refine (Below.heap_alloc _ _ _ (by omega)).trans ?_
    rw [hX]
    exact Below.heap_alloc _ _ _ hB
  have hYI : I 0 Y := by
    rw [hY]
    refine hI 0 X _ (S + 1) ?_ (World.grownBy_alloc X _ _) (.inr (by omega))
    rw [hX]
    exact hI 0 w _ (S + 1) h0 (World.grownBy_alloc w _ _) (.inr (by omega))
  refine ⟨S + 1, [{ target := .collected S, args := #[] }], Y, { target := .fn (.func gf) lb, args := #[.func (.yield (S + 1)) #[] #[]] }, Y, gf, #[.func (.yield (S + 1)) #[] #[]] ++ lb, Y, ?_, ?_, ?_, ?_, fun _ => h1, ?_⟩
  · rw [hY, hX, hrec, hS]
    exact run_enterLoop_outer _ _ _ _ _
  · simp only [resolve, hg]
    simp [go_sem]
  · intro f' hf'
    simp [Target.leads] at hf'
    subst hf'
    exact hFg
  · simp [invoke, go_sem, eg]
  · refine (hseq (S + 1) (fun j W => I j W ∧ W.heap[S + 1]? = some (.loop (rec .ready)) ∧ W.heap[S]? = some (.deferred (some []))) Y ?_ ?_ hYB ⟨hYI, hYl, hYd⟩).mono ?_
    · rintro j W W' ⟨hi, hl, hd⟩ hg'
      refine ⟨hI j W W' B hi hg' (.inl rfl), ?_, ?_⟩
      · exact (hg'.block _ (Array.getElem?_eq_some_iff.1 hl).1 (by intro e; injection e with e; omega)).trans hl
      · exact (hg'.block _ (Array.getElem?_eq_some_iff.1 hd).1 (by intro e; injection e with e; omega)).trans hd
    · rintro j W ⟨hi, hl, hd⟩ hm
      have hy := run_yield (P := P) (args := #[arg j]) hl (by rw [hrec]; exact hps.symm)
      have hlt := (Array.getElem?_eq_some_iff.1 hl).1
      rw [hrec] at hy
      refine ⟨fn, _, assign, body, hy, roundIn_of_wpIn hfn (hassign _ j W _ ⟨_, run_beginRound hl (by rw [hrec]), ?_⟩)⟩
      obtain ⟨Z, hZ⟩ : ∃ Z, Z = W.putObj (S + 1) (.loop { rec .ready with state := .busy }) := ⟨_, rfl⟩
      rw [← hZ]
      have hgZ : W.grownBy Z (some (S + 1)) := by rw [hZ]; exact grownBy_putObj' W _ _
      have hZl : Z.heap[S + 1]? = some (.loop { rec .ready with state := .busy }) := by rw [hZ]; exact World.putObj_heap_same hlt
      have hZd : Z.heap[S]? = some (.deferred (some [])) := by rw [hZ]; exact (World.putObj_heap_other (by omega)).trans hd
      refine wpIn_mono (hbody _ j Z (hI j W Z (S + 1) hi hgZ (.inr (by omega))) hm) ?_
      intro e a3 W3 hp
      cases e with
      | normal =>
        obtain ⟨⟨hs3, hk3⟩, hi3⟩ := hp
        have hZs := hgZ.size
        have hl3 : W3.heap[S + 1]? = some (.loop { rec .ready with state := .busy }) := (hk3 _ (.inr (by omega)) (by omega)).trans hZl
        have hd3 : W3.heap[S]? = some (.deferred (some [])) := (hk3 _ (.inr (by omega)) (by omega)).trans hZd
        have hr := run_endRound (P := P) none hl3
        refine ⟨_, _, hr, rfl, ⟨hI _ W3 _ (S + 1) hi3 (grownBy_putObj' W3 _ _) (.inr (by omega)), ?_, ?_⟩, ?_⟩
        · rw [World.putObj_heap_same (Array.getElem?_eq_some_iff.1 hl3).1, hrec]
          rfl
        · exact (World.putObj_heap_other (by omega)).trans hd3
        · refine (World.putObj_heap_other (by omega)).trans ?_
          refine (hk3 B (.inl rfl) (by omega)).trans ?_
          rw [hZ]
          exact World.putObj_heap_other (by omega)
      | ret => exact hp.elim
      | exit id => exact hp.elim
      | goto t => exact hp.elim
      | panic ch => exact hp.elim
      | outgrown => exact hp.elim
    · rintro e W2 ⟨⟨v, rfl⟩, j, hm, hi, hl, hd⟩
      refine ⟨none, _, by have := run_endLoop (P := P) hl (by rw [hrec]; simp); rw [hrec] at this; exact this, ?_⟩
      have := hdone j (W2.putObj (S + 1) (.loop { rec .ready with state := .exhausted })) hm (hI j W2 _ (S + 1) hi (grownBy_putObj' W2 _ _) (.inr (by omega))) (by rw [← hS]; exact (World.putObj_heap_other (by omega)).trans hd)
      rw [← hS, hrec] at this
      exact this

set_option maxRecDepth 100000 in
set_option maxHeartbeats 2000000 in
theorem on_in (F : Fence) (n : Nat) (hf : F = Fence.wide) (hn : 3 ≤ n) (s : Nat) (hs : s < 4294967296) (A : Option Addr) (m c : Nat) (l : List UInt8) (w : World) (hr : Rd w 1 A m c (bvs l)) :
    CallsIn F n Tryz.prog 104 #[.int .u32 (s : Int), .slice A m c] w fun e w' => e = .returned (.int .u32 (onF s l : Nat)) ∧ Ext w w' := by
  have h1 : 1 ≤ n := by omega
  have hro : F.round = none := by rw [hf]; rfl
  have hfn : ∀ f, F.fn f := by intro f; rw [hf]; trivial
  have hleft : ∀ k X Y w, CallsIn F k Tryz.prog 131 #[.agg #[.int .u64 ((X : Nat) : Int), .int .u64 ((Y : Nat) : Int)]] w fun e w' => e = .returned (bothV (X % adM, Y % adM)) ∧ Ext w w' := fun k X Y w => by rw [hf]; exact callsIn_wide.2 (sleft_e w X Y)
  have htakes := fun k (A : Option Addr) (n c X Y : Nat) (l : List UInt8) (w : World) hX hY hn hr => show CallsIn F k _ _ _ _ _ from by rw [hf]; exact callsIn_wide.2 (takes_e (A := A) (n := n) (c := c) (X := X) (Y := Y) (l := l) w hX hY hn hr)
  clear hf
  refine callsIn_of_wp_marks Tryz.func104 rfl (hfn _) ?_ hro
  simp only [Tryz.ntmps104, List.size_toArray, List.length_cons, List.length_nil, Nat.reduceAdd, Nat.reduceSub, Array.replicate_succ, Array.replicate_zero, List.push_toArray, List.append_toArray, List.nil_append, List.cons_append]
  have ha := Lib.hid (low16 s hs)
  have hb := Lib.hid (high16 s)
  gi_wp2_with (first | (gi_at_call 131; rw [ha.out, hb.out]; refine (hleft _ _ _ _).mono ?_; rintro e W1 ⟨rfl, hx1⟩; unfold bothV) | gi_at_call 132; refine (pieces_in F (n - 1) (hfn _) hro _ _ _ _).mono ?_; rintro e w' ⟨rfl, rfl⟩)
  rw [show (s : Int) % 65536 % (adM : Int) = ((s % 65536 % adM : Nat) : Int) from by simp, show (s : Int) / 65536 % (adM : Int) = ((s / 65536 % adM : Nat) : Int) from by simp]
  obtain ⟨p, hp⟩ : ∃ p, p = ad0 s := ⟨_, rfl⟩
  have hp1 : s % 65536 % adM = p.1 := by rw [hp]; rfl
  have hp2 : s / 65536 % adM = p.2 := by rw [hp]; rfl
  have hpl : p.1 < adM ∧ p.2 < adM := by rw [hp]; exact ad0_lt s
  rw [hp1, hp2]
  clear hp1 hp2 ha hb
  obtain ⟨V, hV⟩ : ∃ V, V = (W1.alloc (Obj.cells #[.int .u64 (p.1 : Nat), .int .u64 (p.2 : Nat)] 188)).alloc (Obj.cells #[.slice A m c] 50) := ⟨_, rfl⟩
  have hVs : V.heap.size = W1.heap.size + 1 + 1 := by rw [hV]; simp
  have hVe : Ext w V := by rw [hV]; exact (hx1.alloc _).alloc _
  have hVx : Boxed V (W1.heap.size + 1) 50 (.slice A m c) := by
    rw [hV]
    have := Boxed.new (W1.alloc (Obj.cells #[.int .u64 (p.1 : Nat), .int .u64 (p.2 : Nat)] 188)) 50 (.slice A m c)
    rwa [World.size_alloc] at this
  have hV0 : V.heap[W1.heap.size]? = some (.cells #[.int .u64 (p.1 : Nat), .int .u64 (p.2 : Nat)] 188 (0, 0)) := by
    rw [hV]
    exact (Below.heap_alloc _ _ _ (by simp)).trans (World.alloc_heap_new W1 _)
  have hw1 := hx1.size
  rw [← hV]
  clear hV
  obtain ⟨b, o, hA⟩ : ∃ b o, 0 < m → A = some ⟨b, o, none⟩ := by
    by_cases h : 0 < m
    · obtain ⟨b, o, e, -⟩ := hr.at_ h
      exact ⟨b, o, fun _ => e⟩
    · exact ⟨0, 0, fun h' => absurd h' h⟩
  refine wpIn_rangeFunc_box hro h1 (gf := 140) (lb := #[.pointer (some ⟨W1.heap.size + 1, 0, none⟩)]) rfl (hfn _) (enters_of Tryz.func140 (by kernel_rfl) rfl)
    (B := W1.heap.size + 1) (by omega) (fun j => pieceV b o m c j) (fun j => 1024 * j < m) rfl
    (fun l' J W hJ hY hBx hJ0 => (pieces1_in F (n - 1) (hfn _) hro (by omega) l' (W1.heap.size + 1) b o m c hr.le J hJ (fun j W h1 h2 => hY j W h1 h2) W ⟨A, c, by rw [Nat.mul_zero, Nat.sub_zero]; exact hBx.trans hVx, fun h => ⟨hA (by omega), by omega⟩⟩ hJ0).mono fun e W' h => ⟨h.1, by obtain ⟨j, h2, h3⟩ := h.2; exact ⟨j, by omega, h3⟩⟩)
    (fun j W => W.heap[W1.heap.size]? = some (.cells #[.int .u64 ((adRun p (l.take (1024 * j))).1 : Nat), .int .u64 ((adRun p (l.take (1024 * j))).2 : Nat)] 188 (0, 0)) ∧ Ext w W)
    (fun j W W' r h hg hr => ⟨(hg.block _ (Array.getElem?_eq_some_iff.1 h.1).1 (by intro e; injection e with e; omega)).trans h.1, h.2.grown hg (fun k e => by injection e with e; omega)⟩)
    ⟨by rw [Nat.mul_zero, List.take_zero]; exact hV0, hVe⟩
    ?a₁ ?assign ?body ?done
  case assign =>
    intro l j W K hK
    gi_wp2
    exact hK
  case body =>
    rintro lp j W ⟨hc, hx⟩ hm
    obtain rfl := hA (by omega)
    have hl := hr.blen
    have hle := hr.le
    have hpl2 := adRun_lt (l.take (1024 * j)) p hpl.1 hpl.2
    have hrun : adRun (adRun p (l.take (1024 * j))) ((l.drop (1024 * j)).take (min 1024 (m - 1024 * j))) = adRun p (l.take (1024 * (j + 1))) := by
      rw [← adRun_append]
      congr 1
      rw [show 1024 * (j + 1) = 1024 * j + 1024 by omega, List.take_add]
      congr 1
      rw [List.take_eq_take_iff, List.length_drop]
      omega
    have hpc : Rd W 1 (some ⟨b, o + 1024 * j, none⟩) (min 1024 (m - 1024 * j)) (c - 1024 * j) (bvs ((l.drop (1024 * j)).take (min 1024 (m - 1024 * j)))) := by
      have := (hr.ext hx).cut (1024 * j) (1024 * j + min 1024 (m - 1024 * j)) c (by omega) (by omega) (by omega) (by omega)
      rw [if_neg (by omega), Option.map_some, Nat.add_sub_cancel_left, Nat.mul_one, Nat.mul_one] at this
      unfold bvs at this ⊢
      rw [List.map_take, List.map_drop]
      rwa [show (⟨b, o, none⟩ : Addr).add (1024 * j) = ⟨b, o + 1024 * j, none⟩ from by unfold Addr.add; simp] at this
    have hrg : W.rangeAt W1.heap.size 0 [.int .u64 ((adRun p (l.take (1024 * j))).1 : Nat), .int .u64 ((adRun p (l.take (1024 * j))).2 : Nat)] := fun i v hi => by
      rw [cell_of_row W _ (0 + i) _ _ (0, 0) hc]
      simpa using hi
    have Hrun := Lib.hid hrun
    clear hrun
    generalize adRun p (l.take (1024 * j)) = p1 at *
    have h3 : 1 ≤ n - 1 - 1 := by omega
    unfold pieceV
    gi_wp2_with (first
      | ((with_reducible apply wplIn_loadA); (case hx => rfl); (case hc => exact hrg); (case hs => exact ag _ _ rfl); (case hl => rfl))
      | (gi_at_call 133; refine ((htakes _ _ _ _ _ _ _ _ hpl2.1 hpl2.2 (by omega) hpc).inRound _).mono ?_; rintro e W2 ⟨rfl, hx2⟩; unfold bothV)
      | ((with_reducible apply wplIn_storeA); (case hx | hy => rfl); (case hb => exact (hx2.block _ (Array.getElem?_eq_some_iff.1 hc).1).trans hc); (case hs => exact sz_ag _ _ rfl); (case h1 | hk => rfl); intro W3 hc3 hg3))
    rw [Hrun.out] at hc3
    have hs2 := hx2.size
    refine ⟨⟨Nat.le_trans hs2 hg3.size, fun k hk hlt => (hg3.block k (by omega) (by intro e; injection e with e; omega)).trans (hx2.block k hlt)⟩, hc3, (hx.trans hx2).grown hg3 (fun k e => by injection e with e; omega)⟩
  case done =>
    rintro j W hm ⟨hc, hx⟩ hd
    have hl := hr.blen
    rw [List.take_of_length_le (by omega)] at hc
    have hpl2 := adRun_lt l p hpl.1 hpl.2
    have hon : onF s l = adOut (adRun p l) := by rw [hp]; rfl
    have Hon := Lib.hid hon
    clear hon
    generalize adRun p l = p1 at *
    have hc0 : W.cell? ⟨W1.heap.size, 0, none⟩ = some (.int .u64 (p1.1 : Nat)) := by rw [cell_of_row W _ 0 _ _ (0, 0) hc]; rfl
    have hc1 : W.cell? ⟨W1.heap.size, 1, none⟩ = some (.int .u64 (p1.2 : Nat)) := by rw [cell_of_row W _ 1 _ _ (0, 0) hc]; rfl
    have hb := Lib.hid (both_or p1.1 p1.2 (by have := hpl2.1; unfold adM at this; omega) (by have := hpl2.2; unfold adM at this; omega))
    gi_wp2
    refine ⟨by simp, .inl ⟨_, _, rfl, run_takeDeferred hd, ?_⟩⟩
    refine ⟨_, results_tmp rfl _ _ _, ?_, ?_⟩
    · show Ending.returned (Value.int .u32 _) = _
      rw [hb.out, Hon.out]
      unfold adOut
      congr 2
      have := hpl2.1
      have := hpl2.2
      unfold adM at *
      omega
    · exact hx.grown (grownBy_putObj' W _ _) (fun k e => by injection e with e; omega)

theorem on_e (s : Nat) (hs : s < 4294967296) {A : Option Addr} {m c : Nat} {l : List UInt8} (w : World) (hr : Rd w 1 A m c (bvs l)) :
    Calls Tryz.prog 104 #[.int .u32 (s : Int), .slice A m c] w fun e w' => e = .returned (.int .u32 (onF s l : Nat)) ∧ Ext w w' :=
  callsIn_wide.1 (on_in Fence.wide 3 rfl (Nat.le_refl _) s hs A m c l w hr)
section
variable {W : World} {L L' L0 : List Ent} {R : Ending → World → Prop}
theorem on_k {s : Nat} {N : Int} {A : Option Addr} {m c : Nat} {l : List UInt8} (G : Gives L fun w => Rd w 1 A m c (bvs l)) (hN : N = (s : Int)) (hs : s < 4294967296) (H : Holds W L) (k : ∀ w', Holds w' L → R (.returned (.int .u32 (onF s l : Nat))) w') :
    Calls Tryz.prog 104 #[.int .u32 N, .slice A m c] W R := by
  subst hN
  exact (on_e s hs W (G W H)).mono fun e w' h => by obtain ⟨rfl, hx⟩ := h; exact k w' (H.ext hx)
set_option maxRecDepth 100000 in
set_option maxHeartbeats 1000000 in
theorem sumof_k {A : Option Addr} {m c : Nat} {l : List UInt8} (G : Gives L fun w => Rd w 1 A m c (bvs l)) (H : Holds W L) (k : ∀ w', Holds w' L → R (.returned (.int .u32 (onF 1 l : Nat))) w') :
    Calls Tryz.prog 105 #[.slice A m c] W R := by
  have HK := Lib.hid k; clear k
  go_enter Tryz.func105, Tryz.ntmps105
  go_wp2_with (first | (with_reducible apply on_k (s := 1) G); (case hN => rfl); (case hs => decide); (case H => exact H); clear H; (try clear W); intro W H)
  exact HK.out _ H
end
end Go.Proofs.YtdnioigcgggdbaaGreatDoor
namespace Go.Proofs.YtdnioigcgggdbaaGreatDoor
open Go.RowKit
set_option maxRecDepth 100000

theorem info_u8s : (Tryz.prog.info? 5).map (·.size) = some 1 := by kernel_rfl
theorem addr_add0 (a : Addr) : a.add 0 = a := by unfold Addr.add; simp
/-- s[:cap(s)], s[:len(s):len(s)]: what the operations give. -/
theorem run_full {P : Program} {t e : TypeId} (ht : P.underlying t = some (.slice e)) (hs : (P.info? e).map (·.size) = some 1) (A : Option Addr) (n cap : Nat) (W : World) :
    (Instr.slice t (.slice A n cap) none (some (.int .i64 (cap : Int))) none).run P W = .ok (.slice A cap cap) W := by
  obtain ⟨i, hi', hz⟩ := Option.map_eq_some_iff.1 hs
  simp [Instr.slice, run_underlying ht, Instr.sliceBounds, Instr.sliceBound, asIntOf, sizeOf, typeInfo, hi']
  cases A <;> simp [addr_add0]
theorem run_head {P : Program} {t e : TypeId} {size : Nat} (ht : P.underlying t = some (.slice e)) (hs : (P.info? e).map (·.size) = some size) (A : Option Addr) (n cap k : Nat) (hk : k ≤ cap) (W : World) :
    (Instr.slice t (.slice A n cap) none (some (.int .i64 (k : Int))) none).run P W = .ok (.slice A k cap) W := by
  obtain ⟨i, hi', hz⟩ := Option.map_eq_some_iff.1 hs
  simp [Instr.slice, run_underlying ht, Instr.sliceBounds, Instr.sliceBound, asIntOf, sizeOf, typeInfo, hi', hk]
  cases A <;> simp [addr_add0]
theorem run_clip {P : Program} {t e : TypeId} {size : Nat} (ht : P.underlying t = some (.slice e)) (hs : (P.info? e).map (·.size) = some size) (A : Option Addr) (n cap : Nat) (hk : n ≤ cap) (W : World) :
    (Instr.slice t (.slice A n cap) none (some (.int .i64 (n : Int))) (some (.int .i64 (n : Int)))).run P W = .ok (.slice A n n) W := by
  obtain ⟨i, hi', hz⟩ := Option.map_eq_some_iff.1 hs
  simp [Instr.slice, run_underlying ht, Instr.sliceBounds, Instr.sliceBound, asIntOf, sizeOf, typeInfo, hi', hk]
  cases A <;> simp [addr_add0]

set_option maxHeartbeats 400000 in
/-- slices.Clone at bytes: new memory, the same bytes. -/
theorem clone_any (A : Option Addr) (n cap : Nat) (l : List UInt8) (hn : n ≤ 70368744177664) (w : World) (hr : Rd w 1 A n cap (bvs l)) :
    Calls Tryz.prog 58 #[.slice A n cap] w fun e w' => ∃ A' n' cap', e = .returned (.slice A' n' cap') ∧
      w'.ownsRow w.heap.size 5 1 (.slice A' n' cap') n' (bvs l) ∧ Ext w w' := by
  have hl := hr.blen
  have hq := fun W a n c => Lib.run_eql_slice_nil (P := Tryz.prog) W 50 5 a n c 0 0 Tryz.underlying50
  cases A with
  | none =>
    obtain rfl : cap = 0 := hr.nil rfl
    obtain rfl : n = 0 := by have := hr.le; omega
    obtain rfl : l = [] := List.eq_nil_of_length_eq_zero hl
    go_enter Tryz.func58, Tryz.ntmps58
    go_wp2_with (fail)
    go_ret
    exact ⟨none, 0, 0, rfl, World.ownsRow_nil _ _ _ _, Ext.refl _⟩
  | some p =>
    have Hl := Lib.hid hl
    clear hl
    have hmade := World.ownsRow_made (base := w.heap.size) (size := 1) (e := 5) w #[] 0 (Nat.le_refl _) (by simp [maxLen]) rfl
    go_enter Tryz.func58, Tryz.ntmps58
    go_wp2_with (at_builtin; refine wpl_append rfl _ _ _ rfl Tryz.underlying50 info_u8 rfl (by decide) rfl rfl hmade (hr.alloc _) (bvs_oneCell _) (by simp only [maxLen]; omega) (by omega) (by simp) ?_; intro A2 n2 c2 w2 hn2 hown2 hg2 _)
    go_ret
    refine ⟨_, _, _, rfl, by simpa using hown2, ((Ext.refl _).alloc _).grown hg2 (by simp [Value.ownBlock])⟩

set_option maxHeartbeats 400000 in
/-- slices.Clip at bytes. -/
theorem clip_any (A : Option Addr) (n cap : Nat) (hn : n ≤ cap) (w : World) :
    Calls Tryz.prog 94 #[.slice A n cap] w fun e w' => e = .returned (.slice A n n) ∧ w = w' := by
  have hc := fun W => run_clip Tryz.underlying50 info_u8s A n cap hn W
  go_enter Tryz.func94, Tryz.ntmps94
  go_wp2
  go_ret
  exact ⟨rfl, rfl⟩

set_option maxHeartbeats 400000 in
/-- slices.Grow at bytes, on a slice of the call's own: the same bytes. -/
theorem grow_any (A : Option Addr) (n cap : Nat) (l : List UInt8) (k base : Nat) (hk : k ≤ 70368744177664) (hn : n ≤ 70368744177664) (w : World) (hb : base ≤ w.heap.size) (ho : w.ownsRow base 5 1 (.slice A n cap) n (bvs l)) :
    Calls Tryz.prog 134 #[.slice A n cap, .int .i64 k] w fun e w' => ∃ A' cap', e = .returned (.slice A' n cap') ∧
      w'.ownsRow base 5 1 (.slice A' n cap') n (bvs l) ∧ Ext w w' := by
  have hr := Rd.of_own ho
  have hle := hr.le
  have htop := hr.top
  unfold maxLen at htop
  by_cases h : n + k ≤ cap
  · have h2 : ¬ (0 : Int) < (k : Int) - ((cap : Int) - (n : Int)) := by omega
    go_enter Tryz.func134, Tryz.ntmps134
    go_wp2
    go_ret
    exact ⟨_, _, rfl, ho, Ext.refl _⟩
  · have h2 : (0 : Int) < (k : Int) - ((cap : Int) - (n : Int)) := by omega
    obtain ⟨d, hd⟩ : ∃ d : Nat, n + k = cap + d := ⟨n + k - cap, by omega⟩
    have hdi : (k : Int) - ((cap : Int) - (n : Int)) = (d : Int) := by omega
    have hf := fun W => run_full Tryz.underlying50 info_u8s A n cap W
    obtain ⟨i0, hi, hz0, hz1, hz2⟩ := info_parts info_u8
    have olds : ∃ ol : List Value, ol.length = cap ∧ ol.take n = bvs l ∧ (Builtin.firstCells i0.size cap (.slice A cap cap)).run Tryz.prog w.drew = .ok ol.toArray w.drew := by
      rcases ho.2 with ⟨hv, hn0⟩ | ⟨g, c, cur, hv, hbg, hg, hnc, hcm, hcs, htake⟩
      · injection hv with e1 e2 e3
        subst e1; subst e3
        refine ⟨[], rfl, ?_, by simp [Builtin.firstCells]⟩
        have := ho.1
        rw [hn0] at this
        have e0 : bvs l = [] := List.eq_nil_of_length_eq_zero (by simpa using this)
        rw [e0]; simp
      · injection hv with e1 e2 e3
        subst e1; subst e3
        refine ⟨cur.toList, by simpa using hcs, by simpa using htake, ?_⟩
        rw [hz1]
        refine run_firstCells_some (P := Tryz.prog) w.drew 1 cap ⟨g, 0, none⟩ cap cap cur.toList (by simpa using hcs) ?_
        intro j u hu
        rw [add_mk, cell_of_row w.drew g (0 + j) cur 5 (0, 0) hg]
        simpa using hu
    obtain ⟨ol, hol, htk, hfc⟩ := olds
    have hap := Lib.run_append_grow_zeros (P := Tryz.prog) w 50 3 50 5 i0 (.int .u8 0) .i64 .i64 Tryz.underlying50 Tryz.underlying3 hi hz0 A cap cap ol hfc d (by omega) (by rw [hz1]; omega) (by omega) (by omega) (by rw [hz2]; omega)
      (growslice_fits (by omega) (by rw [hz2]; omega))
    have hge := grownCap_ge w (cap + d) cap 5
    have hcm := grownCap_le_maxLen w (cap + d) cap 5 (by simp only [maxLen]; omega)
    generalize hG : grownCap w (cap + d) cap 5 = G at *
    have Hfc := Lib.hid hfc
    have Hap := Lib.hid hap
    have HG := Lib.hid hG
    have Hd := Lib.hid hd
    clear hfc hap hG hd
    have hh := fun W => run_head (size := 1) Tryz.underlying50 info_u8s (some ⟨w.heap.size, 0, none⟩) (cap + d) G n (by omega) W
    go_enter Tryz.func134, Tryz.ntmps134
    go_wp2_with (at_builtin; refine Lib.wpList_append_run _ rfl _ _ _ _ rfl _ _ rfl rfl _ _ Hap.out ?_)
    go_ret
    refine ⟨_, _, rfl, ⟨ho.1, .inr ⟨w.heap.size, G, _, rfl, hb, heap_alloc_new w.drew _, by omega, hcm, ?_, ?_⟩⟩, ((Ext.refl w).drew).alloc _⟩
    · simp [Builtin.zeroCells, hol]; omega
    · rw [← htk]
      simp only [Array.toList_append, Nat.mul_one]
      rw [List.take_append_of_le_length (by rw [hol]; omega)]

/-- a piece that Concat joins. -/
structure Piece where
  a : Option Addr
  n : Nat
  c : Nat
  l : List UInt8
def Piece.v (p : Piece) : Value := .slice p.a p.n p.c
def pieces (ps : List Piece) : List UInt8 := (ps.map (·.l)).flatten
theorem pieces_snoc (ps : List Piece) (p : Piece) : pieces (ps ++ [p]) = pieces ps ++ p.l := by simp [pieces]
theorem take_snoc_get {α : Type} (l : List α) (k : Nat) (h : k < l.length) : l.take (k + 1) = l.take k ++ [l[k]] := by
  rw [List.take_add_one, List.getElem?_eq_getElem h]; rfl
theorem pieces_take_le (ps : List Piece) (k : Nat) : (pieces (ps.take k)).length ≤ (pieces ps).length := by
  have e : pieces ps = pieces (ps.take k) ++ pieces (ps.drop k) := by
    unfold pieces; rw [← List.flatten_append, ← List.map_append, List.take_append_drop]
  rw [e, List.length_append]; omega

set_option maxHeartbeats 1000000 in
/-- slices.Concat at bytes: all pieces, one behind the other, in new memory. -/
theorem concat_any (B : Option Addr) (m c : Nat) (ps : List Piece) (w : World) (hB : Rd w 1 B m c (ps.map Piece.v)) (hps : ∀ p ∈ ps, Rd w 1 p.a p.n p.c (bvs p.l)) (hs : (pieces ps).length ≤ 70368744177664) :
    Calls Tryz.prog 106 #[.slice B m c] w fun e w' => ∃ A' n' cap', e = .returned (.slice A' n' cap') ∧
      w'.ownsRow w.heap.size 5 1 (.slice A' n' cap') n' (bvs (pieces ps)) ∧ Ext w w' := by
  have hm : ps.length = m := by have := hB.len; simpa using this
  have hle := hB.le
  have htop := hB.top
  unfold maxLen at htop
  have Hm := Lib.hid hm
  clear hm
  have Hs := Lib.hid hs
  have step : ∀ k, k < m → ∃ (p : Piece) (b o : Nat), ps[k]? = some p ∧ B = some ⟨b, o, none⟩ ∧ w.cell? ⟨b, o + k, none⟩ = some (.slice p.a p.n p.c) ∧ Rd w 1 p.a p.n p.c (bvs p.l) ∧ pieces (ps.take (k + 1)) = pieces (ps.take k) ++ p.l ∧ (pieces (ps.take k)).length + p.n ≤ 70368744177664 := by
    intro k hk
    have hlt : k < ps.length := by have := Hm.out; omega
    obtain ⟨b, o, hb, hc⟩ := hB.at_ (by omega)
    have hr := hps ps[k] (List.getElem_mem hlt)
    have e := pieces_snoc (ps.take k) ps[k]
    rw [← take_snoc_get ps k hlt] at e
    have hle := pieces_take_le ps (k + 1)
    have := Hs.out
    refine ⟨ps[k], b, o, List.getElem?_eq_getElem hlt, hb, ?_, hr, e, ?_⟩
    · rw [hc k (by omega), List.getElem?_map, List.getElem?_eq_getElem hlt]; rfl
    · rw [e, List.length_append, hr.blen] at hle; omega
  clear hs
  go_enter Tryz.func106, Tryz.ntmps106
  go_wp2
  go_loop [3, 5, 11] (fun s _ i => ∃ k : Nat, k ≤ m ∧ i = .int .i64 k ∧ s = .int .i64 ((pieces (ps.take k)).length : Nat)) (fun _ _ i => m - (intOf i).toNat)
  case atStart => exact ⟨0, Nat.zero_le _, rfl, rfl⟩
  case round =>
    obtain ⟨k, hk, rfl, rfl⟩ := hrel
    by_cases hlt : k < m
    · obtain ⟨p, b, o, hp, rfl, hcell, hr, hsn, hsum⟩ := step k hlt
      have hbl := hr.blen
      have hnew : (pieces (ps.take (k + 1))).length = (pieces (ps.take k)).length + p.n := by rw [hsn, List.length_append, hbl]
      have Hnew := Lib.hid hnew
      clear step hsn hnew hbl
      generalize (pieces (ps.take k)).length = t at *
      go_wp2
      go_round
      case rel => exact ⟨k + 1, by omega, by go_num, by rw [Hnew.out]; go_num⟩
      case measure => simp [intOf]; omega
    · obtain rfl : k = m := by omega
      have hall : ps.take k = ps := List.take_of_length_le (by have := Hm.out; omega)
      rw [hall]
      have hs := Hs.out
      clear hall
      generalize hT : (pieces ps).length = t at *
      have HT := Lib.hid hT
      clear hT
      go_wp2_with (go_at_call 134; refine (grow_any none 0 0 [] t w.heap.size hs (by omega) w (Nat.le_refl _) (World.ownsRow_nil _ _ _ _)).mono ?_; rintro e w1 ⟨A1, c1, rfl, ho1, hx1⟩)
      go_loopw [6, 8, 27] (fun v _ i wr => ∃ (k' : Nat) (A' : Option Addr) (n' c' : Nat), k' ≤ k ∧ i = .int .i64 k' ∧ v = .slice A' n' c' ∧ wr.ownsRow w.heap.size 5 1 (.slice A' n' c') n' (bvs (pieces (ps.take k'))) ∧ Ext w wr) (fun _ _ i _ => k - (intOf i).toNat)
      case atStart => exact ⟨0, _, _, _, Nat.zero_le _, rfl, rfl, ho1, hx1⟩
      case round =>
        obtain ⟨j, A2, n2, c2, hj, rfl, rfl, ho2, hx2⟩ := hrel
        by_cases hlt2 : j < k
        · obtain ⟨p, b, o, hp, rfl, hcell, hr, hsn, hsum⟩ := step j hlt2
          have hcell2 : wr.cell? ⟨b, o + j, none⟩ = some (.slice p.a p.n p.c) := (Below.cell hx2 (World.block_lt_of_cell? w ⟨b, o + j, none⟩ hcell)).trans hcell
          have hn2 : n2 = (pieces (ps.take j)).length := by have := ho2.1; rw [bvs_length] at this; omega
          have hsum2 : n2 + p.n ≤ 70368744177664 := by omega
          have Hsn := Lib.hid hsn
          clear step hsn hcell hn2 hsum
          go_wp2_with (at_builtin; refine wpl_append rfl _ _ _ rfl Tryz.underlying50 info_u8 rfl (by decide) rfl rfl ho2 (hr.ext hx2) (bvs_oneCell _) (by simp only [maxLen]; omega) (by omega) hx2.size ?_; intro A3 n3 c3 w3 hn3 ho3 hg3 _)
          go_roundw
          case rel => exact ⟨j + 1, _, _, _, by omega, by go_num, rfl, by rw [Hsn.out, bvs_append]; exact ho3, hx2.grown hg3 (own_block_ge ho2)⟩
          case measure => simp [intOf]; omega
        · obtain rfl : j = k := by omega
          have hall : ps.take j = ps := List.take_of_length_le (by have := Hm.out; omega)
          rw [hall] at ho2
          clear hall
          go_wp2
          go_ret
          exact ⟨_, _, _, rfl, ho2, hx2⟩
end Go.Proofs.YtdnioigcgggdbaaGreatDoor
