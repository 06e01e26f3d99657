/-
  sums: On, Of.
-/
import Derived.Test.YtdnioigcgggdbaaFr4
set_option linter.unusedVariables false
set_option linter.unusedSimpArgs false
namespace Go.Proofs.Ytdnioigcgggdbaa
open Go.RowKit Go.Shelf
attribute [local go_sem] Oper.semAt_some

section
variable {F : Fence} {f : Nat} {P : Program} {ops : Array Oper} {rest : List Oper} {a : Act} {w : World} {Q : Exit → Act → World → Prop} {dst : Option Tmp} {T : TypeId} {x y : Operand} {ty : TypeId} {pos : String} {after : Array Edge}
/-- a load of a row of cells, behind a fence. -/
theorem wplIn_loadA {b k : Nat} (hx : a.eval x = .pointer (some ⟨b, k, none⟩)) {vs : List Value} {n : Nat} (hc : w.rangeAt b k vs) (hs : AggOf P T n) (hl : vs.length = n) (h : wpListIn F f P ops Q rest (a.put dst (.agg vs.toArray)) w) :
    wpListIn F f P ops Q (⟨dst, .load T x, ty, pos, after, none⟩ :: rest) a w := by
  obtain ⟨⟨d, hd, hr⟩, hi⟩ := aggB_spec hs
  refine wpListIn_plain rfl fun K hK' => ?_
  unfold Oper.wpIn
  refine ⟨by simp [Oper.about], ?_⟩
  rw [Oper.semAt_plain F _ _ (by intro c hc'; cases hc')]
  simp only [execOp, hx, Sem.run_bind, run_loadAt_mid w b k T vs d hc hd hr (by rw [hi, hl]), Sem.run_pure, Result.andThen_ok]
  exact hK' _ _ h
/-- a store of a row of cells that is the whole block. -/
theorem wplIn_storeA {b : Nat} (hx : a.eval x = .pointer (some ⟨b, 0, none⟩)) {cs vs : List Value} {T' : TypeId} (hy : a.eval y = .agg vs.toArray) (hb : w.heap[b]? = some (.cells cs.toArray T' (0, 0))) (hs : SizeIs P T vs.length) (h1 : vs.all (·.oneCell') = true) (hk : vs.length = cs.length)
    (h : ∀ w', w'.heap[b]? = some (.cells vs.toArray T' (0, 0)) → w.grownBy w' (some b) → wpListIn F f P ops Q rest (a.put dst undef) w') : wpListIn F f P ops Q (⟨dst, .store T x y, ty, pos, after, none⟩ :: rest) a w := by
  have ht : w.there b 0 vs.toArray.size := fun j hj => by
    simp only [List.size_toArray] at hj
    refine ⟨?_, frozen_of_row w b (0 + j) _ T' hb⟩
    rw [cell_of_row w b (0 + j) _ T' (0, 0) hb]
    simp; omega
  have hr := run_storeVar_mid (P := P) w b 0 T vs.toArray ht (by unfold SizeIs at hs; simpa using hs) (by simpa using h1)
  refine wpListIn_plain rfl fun K hK' => ?_
  unfold Oper.wpIn
  refine ⟨by simp [Oper.about], ?_⟩
  rw [Oper.semAt_plain F _ _ (by intro c hc'; cases hc')]
  simp only [execOp, hx, hy, Instr.storeAt, Instr.sureAddr, Sem.run_bind, Sem.run_pure, Result.andThen_ok, hr]
  have hb2 := blk_setCells vs 0 cs w hb
  rw [setL_whole hk] at hb2
  have hk0 := kept_setCells (b := b) vs 0 w (.refl _ w)
  exact hK' _ _ (h _ hb2 ⟨hk0.os, hk0.tape, hk0.output, hk0.size, fun k hk1 hne => hk0.block k (fun e => hne (by rw [e])) hk1⟩)
end
/-- what a round must keep: the iterator's box, and whatever was made behind the loop's beginning. -/
def SameFrom (B S : Nat) (W W' : World) : Prop := W.heap.size ≤ W'.heap.size ∧ ∀ k, k = B ∨ S ≤ k → k < W.heap.size → W'.heap[k]? = W.heap[k]?
def roundOk (B S : Nat) (I : World → Prop) (W : World) : Exit → Act → World → Prop
  | .normal, _, W' => SameFrom B S W W' ∧ I W'
  | _, _, _ => False
/-- a loop over an iterator whose state lies in a box that was made ahead of the loop, and that it writes. -/
theorem wpIn_rangeFunc_box {F : Fence} {n : Nat} {P : Program} {g : Operand} {ps : Array Tmp} {assign body : Code} {Q : Exit → Act → World → Prop} {a : Act} {w : World}
    (hro : F.round = none) (h1 : 1 ≤ n) {gf : Nat} {lb : Array Value} (hg : a.eval g = .func (.func gf) #[] lb) (hFg : F.fn gf) (eg : ∀ args w, (callFunc gf args).run P w = .ok (.enter gf args) w)
    {B : Nat} (hB : B < w.heap.size) (arg : Nat → Value) (more : Nat → Prop) (hps : ps.size = 1)
    (hseq : ∀ (l : Nat) (J : Nat → World → Prop) (W : World), (∀ j W W', J j W → W.grownBy W' (some B) → J j W') →
      (∀ j W, J j W → more j → YieldAt F (n - 1 - 1) P l #[arg j] W fun e W' => e = .returned (.bool true) ∧ J (j + 1) W' ∧ W'.heap[B]? = W.heap[B]?) →
      W.heap[B]? = w.heap[B]? → J 0 W → CallsIn F (n - 1) P gf (#[.func (.yield l) #[] #[]] ++ lb) W fun e W' => (∃ v, e = .returned v) ∧ ∃ j, ¬ more j ∧ J j W')
    (I : Nat → World → Prop) (hI : ∀ j W W' r, I j W → W.grownBy W' (some r) → r = B ∨ w.heap.size ≤ r → I j W') (h0 : I 0 w) (a₁ : Nat → Act)
    (hassign : ∀ (l j : Nat) (W : World) (K : Act → World → Prop), K (a₁ j) W →
      assign.wpIn (F.inRound l) (n - 1 - 1) P (Exit.then K (fun _ _ _ => False)) { tmps := (ps.zip #[arg j]).foldl (fun t (p, v) => t.setIfInBounds p v) a.tmps, defers := [] } W)
    (hbody : ∀ (l j : Nat) (W : World), I j W → more j → body.wpIn (F.inRound l) (n - 1 - 1) P (roundOk B w.heap.size (I (j + 1)) W) (a₁ j) W)
    (hdone : ∀ (j : Nat) (W : World), ¬ more j → I j W → W.heap[w.heap.size]? = some (.deferred (some [])) → Q .normal { a with defers := { target := .collected w.heap.size, args := #[] } :: a.defers } W) :
    (Code.rangeFunc g ps assign body).wpIn F n P Q a w := by
  refine wpIn_rangeFunc ?_
  intro fn hfn
  rw [hro]
  obtain ⟨S, hS⟩ : ∃ S, S = w.heap.size := ⟨_, rfl⟩
  obtain ⟨rec, hrec⟩ : ∃ rec : LoopState → Loop, rec = fun st => { state := st, pending := none, fn, tmps := a.tmps, params := ps, assign, body, defers := S } := ⟨_, rfl⟩
  obtain ⟨X, hX⟩ : ∃ X, X = w.alloc (.deferred (some [])) := ⟨_, rfl⟩
  have hXs : X.heap.size = S + 1 := by rw [hX, hS, World.size_alloc]
  obtain ⟨Y, hY⟩ : ∃ Y, Y = X.alloc (.loop (rec .ready)) := ⟨_, rfl⟩
  have hYl : Y.heap[S + 1]? = some (.loop (rec .ready)) := by rw [hY, ← hXs]; exact World.alloc_heap_new X _
  have hYd : Y.heap[S]? = some (.deferred (some [])) := by
    rw [hY]
    refine (Below.heap_alloc _ _ _ (by omega)).trans ?_
    rw [hX, hS]
    exact World.alloc_heap_new w _
  have hYB : Y.heap[B]? = w.heap[B]? := by
    rw [hY]
    refine (Below.heap_alloc _ _ _ (by omega)).trans ?_
    rw [hX]
    exact Below.heap_alloc _ _ _ hB
  have hYI : I 0 Y := by
    rw [hY]
    refine hI 0 X _ (S + 1) ?_ (World.grownBy_alloc X _ _) (.inr (by omega))
    rw [hX]
    exact hI 0 w _ (S + 1) h0 (World.grownBy_alloc w _ _) (.inr (by omega))
  refine ⟨S + 1, [{ target := .collected S, args := #[] }], Y, { target := .fn (.func gf) lb, args := #[.func (.yield (S + 1)) #[] #[]] }, Y, gf, #[.func (.yield (S + 1)) #[] #[]] ++ lb, Y, ?_, ?_, ?_, ?_, fun _ => h1, ?_⟩
  · rw [hY, hX, hrec, hS]
    exact run_enterLoop_outer _ _ _ _ _
  · simp only [resolve, hg]
    simp [go_sem]
  · intro f' hf'
    simp [Target.leads] at hf'
    subst hf'
    exact hFg
  · simp [invoke, go_sem, eg]
  · refine (hseq (S + 1) (fun j W => I j W ∧ W.heap[S + 1]? = some (.loop (rec .ready)) ∧ W.heap[S]? = some (.deferred (some []))) Y ?_ ?_ hYB ⟨hYI, hYl, hYd⟩).mono ?_
    · rintro j W W' ⟨hi, hl, hd⟩ hg'
      refine ⟨hI j W W' B hi hg' (.inl rfl), ?_, ?_⟩
      · exact (hg'.block _ (Array.getElem?_eq_some_iff.1 hl).1 (by intro e; injection e with e; omega)).trans hl
      · exact (hg'.block _ (Array.getElem?_eq_some_iff.1 hd).1 (by intro e; injection e with e; omega)).trans hd
    · rintro j W ⟨hi, hl, hd⟩ hm
      have hy := run_yield (P := P) (args := #[arg j]) hl (by rw [hrec]; exact hps.symm)
      have hlt := (Array.getElem?_eq_some_iff.1 hl).1
      rw [hrec] at hy
      refine ⟨fn, _, assign, body, hy, roundIn_of_wpIn hfn (hassign _ j W _ ⟨_, run_beginRound hl (by rw [hrec]), ?_⟩)⟩
      obtain ⟨Z, hZ⟩ : ∃ Z, Z = W.putObj (S + 1) (.loop { rec .ready with state := .busy }) := ⟨_, rfl⟩
      rw [← hZ]
      have hgZ : W.grownBy Z (some (S + 1)) := by rw [hZ]; exact grownBy_putObj' W _ _
      have hZl : Z.heap[S + 1]? = some (.loop { rec .ready with state := .busy }) := by rw [hZ]; exact World.putObj_heap_same hlt
      have hZd : Z.heap[S]? = some (.deferred (some [])) := by rw [hZ]; exact (World.putObj_heap_other (by omega)).trans hd
      refine wpIn_mono (hbody _ j Z (hI j W Z (S + 1) hi hgZ (.inr (by omega))) hm) ?_
      intro e a3 W3 hp
      cases e with
      | normal =>
        obtain ⟨⟨hs3, hk3⟩, hi3⟩ := hp
        have hZs := hgZ.size
        have hl3 : W3.heap[S + 1]? = some (.loop { rec .ready with state := .busy }) := (hk3 _ (.inr (by omega)) (by omega)).trans hZl
        have hd3 : W3.heap[S]? = some (.deferred (some [])) := (hk3 _ (.inr (by omega)) (by omega)).trans hZd
        have hr := run_endRound (P := P) none hl3
        refine ⟨_, _, hr, rfl, ⟨hI _ W3 _ (S + 1) hi3 (grownBy_putObj' W3 _ _) (.inr (by omega)), ?_, ?_⟩, ?_⟩
        · rw [World.putObj_heap_same (Array.getElem?_eq_some_iff.1 hl3).1, hrec]
          rfl
        · exact (World.putObj_heap_other (by omega)).trans hd3
        · refine (World.putObj_heap_other (by omega)).trans ?_
          refine (hk3 B (.inl rfl) (by omega)).trans ?_
          rw [hZ]
          exact World.putObj_heap_other (by omega)
      | ret => exact hp.elim
      | exit id => exact hp.elim
      | goto t => exact hp.elim
      | panic ch => exact hp.elim
      | outgrown => exact hp.elim
    · rintro e W2 ⟨⟨v, rfl⟩, j, hm, hi, hl, hd⟩
      refine ⟨none, _, by have := run_endLoop (P := P) hl (by rw [hrec]; simp); rw [hrec] at this; exact this, ?_⟩
      have := hdone j (W2.putObj (S + 1) (.loop { rec .ready with state := .exhausted })) hm (hI j W2 _ (S + 1) hi (grownBy_putObj' W2 _ _) (.inr (by omega))) (by rw [← hS]; exact (World.putObj_heap_other (by omega)).trans hd)
      rw [← hS, hrec] at this
      exact this

set_option maxRecDepth 100000 in
set_option maxHeartbeats 2000000 in
theorem on_in (F : Fence) (n : Nat) (hf : F = Fence.wide) (hn : 3 ≤ n) (s : Nat) (hs : s < 4294967296) (A : Option Addr) (m c : Nat) (l : List UInt8) (w : World) (hr : Rd w 1 A m c (bvs l)) :
    CallsIn F n Try.prog 51 #[.int .u32 (s : Int), .slice A m c] w fun e w' => e = .returned (.int .u32 (onF s l : Nat)) ∧ Ext w w' := by
  have h1 : 1 ≤ n := by omega
  have hro : F.round = none := by rw [hf]; rfl
  have hfn : ∀ f, F.fn f := by intro f; rw [hf]; trivial
  have hleft : ∀ k X Y w, CallsIn F k Try.prog 60 #[.agg #[.int .u64 ((X : Nat) : Int), .int .u64 ((Y : Nat) : Int)]] w fun e w' => e = .returned (bothV (X % adM, Y % adM)) ∧ Ext w w' := fun k X Y w => by rw [hf]; exact callsIn_wide.2 (sleft_e w X Y)
  have htakes := fun k (A : Option Addr) (n c X Y : Nat) (l : List UInt8) (w : World) hX hY hn hr => show CallsIn F k _ _ _ _ _ from by rw [hf]; exact callsIn_wide.2 (takes_e (A := A) (n := n) (c := c) (X := X) (Y := Y) (l := l) w hX hY hn hr)
  clear hf
  refine callsIn_of_wp_marks Try.func51 rfl (hfn _) ?_ hro
  simp only [Try.ntmps51, List.size_toArray, List.length_cons, List.length_nil, Nat.reduceAdd, Nat.reduceSub, Array.replicate_succ, Array.replicate_zero, List.push_toArray, List.append_toArray, List.nil_append, List.cons_append]
  have ha := Lib.hid (low16 s hs)
  have hb := Lib.hid (high16 s)
  gi_wp2_with (first | (gi_at_call 60; rw [ha.out, hb.out]; refine (hleft _ _ _ _).mono ?_; rintro e W1 ⟨rfl, hx1⟩; unfold bothV) | gi_at_call 61; refine (pieces_in F (n - 1) (hfn _) hro _ _ _ _).mono ?_; rintro e w' ⟨rfl, rfl⟩)
  rw [show (s : Int) % 65536 % (adM : Int) = ((s % 65536 % adM : Nat) : Int) from by simp, show (s : Int) / 65536 % (adM : Int) = ((s / 65536 % adM : Nat) : Int) from by simp]
  obtain ⟨p, hp⟩ : ∃ p, p = ad0 s := ⟨_, rfl⟩
  have hp1 : s % 65536 % adM = p.1 := by rw [hp]; rfl
  have hp2 : s / 65536 % adM = p.2 := by rw [hp]; rfl
  have hpl : p.1 < adM ∧ p.2 < adM := by rw [hp]; exact ad0_lt s
  rw [hp1, hp2]
  clear hp1 hp2 ha hb
  obtain ⟨V, hV⟩ : ∃ V, V = (W1.alloc (Obj.cells #[.int .u64 (p.1 : Nat), .int .u64 (p.2 : Nat)] 106)).alloc (Obj.cells #[.slice A m c] 22) := ⟨_, rfl⟩
  have hVs : V.heap.size = W1.heap.size + 1 + 1 := by rw [hV]; simp
  have hVe : Ext w V := by rw [hV]; exact (hx1.alloc _).alloc _
  have hVx : Boxed V (W1.heap.size + 1) 22 (.slice A m c) := by
    rw [hV]
    have := Boxed.new (W1.alloc (Obj.cells #[.int .u64 (p.1 : Nat), .int .u64 (p.2 : Nat)] 106)) 22 (.slice A m c)
    rwa [World.size_alloc] at this
  have hV0 : V.heap[W1.heap.size]? = some (.cells #[.int .u64 (p.1 : Nat), .int .u64 (p.2 : Nat)] 106 (0, 0)) := by
    rw [hV]
    exact (Below.heap_alloc _ _ _ (by simp)).trans (World.alloc_heap_new W1 _)
  have hw1 := hx1.size
  rw [← hV]
  clear hV
  obtain ⟨b, o, hA⟩ : ∃ b o, 0 < m → A = some ⟨b, o, none⟩ := by
    by_cases h : 0 < m
    · obtain ⟨b, o, e, -⟩ := hr.at_ h
      exact ⟨b, o, fun _ => e⟩
    · exact ⟨0, 0, fun h' => absurd h' h⟩
  refine wpIn_rangeFunc_box hro h1 (gf := 67) (lb := #[.pointer (some ⟨W1.heap.size + 1, 0, none⟩)]) rfl (hfn _) (enters_of Try.func67 (by kernel_rfl) rfl)
    (B := W1.heap.size + 1) (by omega) (fun j => pieceV b o m c j) (fun j => 1024 * j < m) rfl
    (fun l' J W hJ hY hBx hJ0 => (pieces1_in F (n - 1) (hfn _) hro (by omega) l' (W1.heap.size + 1) b o m c hr.le J hJ (fun j W h1 h2 => hY j W h1 h2) W ⟨A, c, by rw [Nat.mul_zero, Nat.sub_zero]; exact hBx.trans hVx, fun h => ⟨hA (by omega), by omega⟩⟩ hJ0).mono fun e W' h => ⟨h.1, by obtain ⟨j, h2, h3⟩ := h.2; exact ⟨j, by omega, h3⟩⟩)
    (fun j W => W.heap[W1.heap.size]? = some (.cells #[.int .u64 ((adRun p (l.take (1024 * j))).1 : Nat), .int .u64 ((adRun p (l.take (1024 * j))).2 : Nat)] 106 (0, 0)) ∧ Ext w W)
    (fun j W W' r h hg hr => ⟨(hg.block _ (Array.getElem?_eq_some_iff.1 h.1).1 (by intro e; injection e with e; omega)).trans h.1, h.2.grown hg (fun k e => by injection e with e; omega)⟩)
    ⟨by rw [Nat.mul_zero, List.take_zero]; exact hV0, hVe⟩
    ?a₁ ?assign ?body ?done
  case assign =>
    intro l j W K hK
    gi_wp2
    exact hK
  case body =>
    rintro lp j W ⟨hc, hx⟩ hm
    obtain rfl := hA (by omega)
    have hl := hr.blen
    have hle := hr.le
    have hpl2 := adRun_lt (l.take (1024 * j)) p hpl.1 hpl.2
    have hrun : adRun (adRun p (l.take (1024 * j))) ((l.drop (1024 * j)).take (min 1024 (m - 1024 * j))) = adRun p (l.take (1024 * (j + 1))) := by
      rw [← adRun_append]
      congr 1
      rw [show 1024 * (j + 1) = 1024 * j + 1024 by omega, List.take_add]
      congr 1
      rw [List.take_eq_take_iff, List.length_drop]
      omega
    have hpc : Rd W 1 (some ⟨b, o + 1024 * j, none⟩) (min 1024 (m - 1024 * j)) (c - 1024 * j) (bvs ((l.drop (1024 * j)).take (min 1024 (m - 1024 * j)))) := by
      have := (hr.ext hx).cut (1024 * j) (1024 * j + min 1024 (m - 1024 * j)) c (by omega) (by omega) (by omega) (by omega)
      rw [if_neg (by omega), Option.map_some, Nat.add_sub_cancel_left, Nat.mul_one, Nat.mul_one] at this
      unfold bvs at this ⊢
      rw [List.map_take, List.map_drop]
      rwa [show (⟨b, o, none⟩ : Addr).add (1024 * j) = ⟨b, o + 1024 * j, none⟩ from by unfold Addr.add; simp] at this
    have hrg : W.rangeAt W1.heap.size 0 [.int .u64 ((adRun p (l.take (1024 * j))).1 : Nat), .int .u64 ((adRun p (l.take (1024 * j))).2 : Nat)] := fun i v hi => by
      rw [cell_of_row W _ (0 + i) _ _ (0, 0) hc]
      simpa using hi
    have Hrun := Lib.hid hrun
    clear hrun
    generalize adRun p (l.take (1024 * j)) = p1 at *
    have h3 : 1 ≤ n - 1 - 1 := by omega
    unfold pieceV
    gi_wp2_with (first
      | ((with_reducible apply wplIn_loadA); (case hx => rfl); (case hc => exact hrg); (case hs => exact ag _ _ rfl); (case hl => rfl))
      | (gi_at_call 62; refine ((htakes _ _ _ _ _ _ _ _ hpl2.1 hpl2.2 (by omega) hpc).inRound _).mono ?_; rintro e W2 ⟨rfl, hx2⟩; unfold bothV)
      | ((with_reducible apply wplIn_storeA); (case hx => rfl); (case hy => rfl); (case hb => exact (hx2.block _ (Array.getElem?_eq_some_iff.1 hc).1).trans hc); (case hs => exact sz_ag _ _ rfl); (case h1 => rfl); (case hk => rfl); intro W3 hc3 hg3))
    rw [Hrun.out] at hc3
    have hs2 := hx2.size
    refine ⟨⟨Nat.le_trans hs2 hg3.size, fun k hk hlt => (hg3.block k (by omega) (by intro e; injection e with e; omega)).trans (hx2.block k hlt)⟩, hc3, (hx.trans hx2).grown hg3 (fun k e => by injection e with e; omega)⟩
  case done =>
    rintro j W hm ⟨hc, hx⟩ hd
    have hl := hr.blen
    rw [List.take_of_length_le (by omega)] at hc
    have hpl2 := adRun_lt l p hpl.1 hpl.2
    have hon : onF s l = adOut (adRun p l) := by rw [hp]; rfl
    have Hon := Lib.hid hon
    clear hon
    generalize adRun p l = p1 at *
    have hc0 : W.cell? ⟨W1.heap.size, 0, none⟩ = some (.int .u64 (p1.1 : Nat)) := by rw [cell_of_row W _ 0 _ _ (0, 0) hc]; rfl
    have hc1 : W.cell? ⟨W1.heap.size, 1, none⟩ = some (.int .u64 (p1.2 : Nat)) := by rw [cell_of_row W _ 1 _ _ (0, 0) hc]; rfl
    have hb := Lib.hid (both_or p1.1 p1.2 (by have := hpl2.1; unfold adM at this; omega) (by have := hpl2.2; unfold adM at this; omega))
    gi_wp2
    refine ⟨by simp, .inl ⟨_, _, rfl, run_takeDeferred hd, ?_⟩⟩
    refine ⟨_, results_tmp rfl _ _ _, ?_, ?_⟩
    · show Ending.returned (Value.int .u32 _) = _
      rw [hb.out, Hon.out]
      unfold adOut
      congr 2
      have := hpl2.1
      have := hpl2.2
      unfold adM at *
      omega
    · exact hx.grown (grownBy_putObj' W _ _) (fun k e => by injection e with e; omega)

theorem on_e (s : Nat) (hs : s < 4294967296) {A : Option Addr} {m c : Nat} {l : List UInt8} (w : World) (hr : Rd w 1 A m c (bvs l)) :
    Calls Try.prog 51 #[.int .u32 (s : Int), .slice A m c] w fun e w' => e = .returned (.int .u32 (onF s l : Nat)) ∧ Ext w w' :=
  callsIn_wide.1 (on_in Fence.wide 3 rfl (Nat.le_refl _) s hs A m c l w hr)
section
variable {W : World} {L L' L0 : List Ent} {R : Ending → World → Prop}
theorem on_k {s : Nat} {N : Int} {A : Option Addr} {m c : Nat} {l : List UInt8} (G : Gives L fun w => Rd w 1 A m c (bvs l)) (hN : N = (s : Int)) (hs : s < 4294967296) (H : Holds W L) (k : ∀ w', Holds w' L → R (.returned (.int .u32 (onF s l : Nat))) w') :
    Calls Try.prog 51 #[.int .u32 N, .slice A m c] W R := by
  subst hN
  exact (on_e s hs W (G W H)).mono fun e w' h => by obtain ⟨rfl, hx⟩ := h; exact k w' (H.ext hx)
set_option maxRecDepth 100000 in
set_option maxHeartbeats 1000000 in
theorem sumof_k {A : Option Addr} {m c : Nat} {l : List UInt8} (G : Gives L fun w => Rd w 1 A m c (bvs l)) (H : Holds W L) (k : ∀ w', Holds w' L → R (.returned (.int .u32 (onF 1 l : Nat))) w') :
    Calls Try.prog 52 #[.slice A m c] W R := by
  have HK := Lib.hid k; clear k
  go_enter Try.func52, Try.ntmps52
  go_wp2_with (first | go_big_skip | ((with_reducible refine wpl_absorb H ?_); clear H; (first  | generalize W.heap.size = q0); (try clear W); intro W H) | ((with_reducible refine wpl_drew H ?_); clear H; (try clear W); intro W H) | ((with_reducible refine wpl_drewN H ?_); clear H; (try clear W); intro W H) | ((with_reducible apply wpl_load H); (case hs => exact sc _ rfl); (case hw => rfl); (case hx => rfl); (case hm => (repeat (first | with_reducible exact mH | with_reducible assumption | with_reducible apply mT))); (case hv => rfl)) | ((with_reducible apply wpl_loadA H); (case hs => exact ag _ _ rfl); (case hw => rfl); (case hx => rfl); (case hm => (repeat (first | with_reducible exact mH | with_reducible assumption | with_reducible apply mT))); (case hv => rfl); (case hl => rfl); (try simp only [List.drop_zero, List.drop_succ_cons, List.take_succ_cons, List.take_zero, List.take_nil])) | ((with_reducible apply wpl_loadB H); (case hs => exact sc _ rfl); (case hw => rfl); (case hx => rfl); (case hm => (first | assumption | (apply gives_own; (case h => (repeat (first | with_reducible exact mH | with_reducible assumption | with_reducible apply mT))); (case hn => rfl)) | (apply gives_blk; (case h => (repeat (first | with_reducible exact mH | with_reducible assumption | with_reducible apply mT))); (case hn => rfl); (case hl => omega)) | (repeat (first | assumption | with_reducible apply Gives.cons)))); (case hj => first | assumption | omega)) | ((with_reducible apply wpl_loadB0 H); (case hs => exact sc _ rfl); (case hw => rfl); (case hx => rfl); (case hm => (first | assumption | (apply gives_own; (case h => (repeat (first | with_reducible exact mH | with_reducible assumption | with_reducible apply mT))); (case hn => rfl)) | (apply gives_blk; (case h => (repeat (first | with_reducible exact mH | with_reducible assumption | with_reducible apply mT))); (case hn => rfl); (case hl => omega)) | (repeat (first | assumption | with_reducible apply Gives.cons)))); (case hj => first | assumption | omega)) | ((with_reducible apply wpl_storeO H); (case hs => exact sz_sc _ rfl); (case hw => rfl); (case hx => rfl); (case hy => (first | exact (rfl : _ = Value.int _ _) | exact (rfl : _ = Value.bool _) | exact (rfl : _ = Value.slice _ _ _) | exact (rfl : _ = Value.pointer _) | exact (rfl : _ = Value.string _) | rfl)); (case h1 => rfl); (case hm => (repeat (first | with_reducible exact Upd.here | with_reducible assumption | with_reducible apply Upd.there))); (case hj => first | assumption | omega); clear H; (try clear W); intro W H) | ((with_reducible apply wpl_app H); (case ht => (first | exact Try.underlying22 | exact Try.underlying25 | exact Try.underlying28 | exact Try.underlying37 | exact Try.underlying38 | exact Try.underlying42 | exact Try.underlying69 | exact Try.underlying72 | exact Try.underlying119 | exact Try.underlying122 | exact Try.underlying141 | exact Try.underlying171)); (case hinfo => (first | exact inf_3 | exact inf_4 | exact inf_5 | exact inf_22 | exact inf_23 | exact inf_29 | exact inf_86 | exact inf_90 | exact inf_174)); (case hw => rfl); (case hs => rfl); (case hx => rfl); (case hm => (repeat (first | with_reducible exact Pull.here | with_reducible apply Pull.there))); (case hzs => rfl); (case hsz => decide); (case hr => (first | assumption | (apply gives_own; (case h => (repeat (first | with_reducible exact mH | with_reducible assumption | with_reducible apply mT))); (case hn => rfl)) | (apply gives_blk; (case h => (repeat (first | with_reducible exact mH | with_reducible assumption | with_reducible apply mT))); (case hn => rfl); (case hl => omega)) | (repeat (first | assumption | with_reducible apply Gives.cons)))); (case h1 => first | exact bvs_oneCell _ | (intro u hu; obtain rfl := List.mem_singleton.1 hu; rfl)); (case h63 => (simp only [maxLen]; omega)); (case hbytes => omega); clear H; (try clear W); intro A1 n1 c1 W hn H hle1 htop1; obtain rfl := hn.out; clear hn) | ((with_reducible apply wpl_store1 H); (case hs => exact sz_sc _ rfl); (case hw => rfl); (case hx => rfl); (case hy => (first | exact (rfl : _ = Value.int _ _) | exact (rfl : _ = Value.bool _) | exact (rfl : _ = Value.slice _ _ _) | exact (rfl : _ = Value.pointer _) | exact (rfl : _ = Value.string _) | rfl)); (case hm => (repeat (first | with_reducible exact Upd.here | with_reducible assumption | with_reducible apply Upd.there))); (case h1 => rfl); (case hk => exact Nat.le_of_ble_eq_true rfl); clear H; (try clear W); intro W H; simp only [setL, List.set_cons_zero, List.set_cons_succ] at H) | ((with_reducible apply wpl_store H); (case hw => rfl); (case hx => rfl); (case hy => rfl); (case hm => (repeat (first | with_reducible exact Upd.here | with_reducible assumption | with_reducible apply Upd.there))); (case hs => exact sz_ag _ _ rfl); (case h1 => rfl); (case hk => exact Nat.le_of_ble_eq_true rfl); clear H; (try clear W); intro W H; first | rw [setL_whole rfl] at H | simp only [setL, List.set_cons_zero, List.set_cons_succ] at H) | (with_reducible apply on_k (s := 1) G); (case hN => rfl); (case hs => decide); (case H => exact H); clear H; (try clear W); intro W H)
  exact HK.out _ H
end
end Go.Proofs.Ytdnioigcgggdbaa
