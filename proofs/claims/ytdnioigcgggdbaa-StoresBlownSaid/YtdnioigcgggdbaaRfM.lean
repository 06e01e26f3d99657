/-
  A range over an iterator, by entries: the loop's record and its block of deferred calls are entries too. Nothing of the program stands here.
  Operations behind a fence, by entries. Nothing of the program stands here.
-/
import Derived.Test.YtdnioigcgggdbaaFr5
import Derived.Test.YtdnioigcgggdbaaSrw
set_option linter.unusedVariables false
set_option linter.unusedSimpArgs false
namespace Go.Proofs.Ytdnioigcgggdbaa
open Go.RowKit Go.Shelf

/-- block b is just this object. -/
def objE (b : Nat) (o : Obj) : Ent :=
  ⟨true, (· = b), fun w => w.heap[b]? = some o,
   fun w w' hk h => (hk.block b rfl (Array.getElem?_eq_some_iff.1 h).1).trans h,
   fun w h c hc => by obtain rfl : c = b := hc; exact (Array.getElem?_eq_some_iff.1 h).1⟩
theorem grown_kept {w w' : World} {b : Nat} (h : w.grownBy w' (some b)) : Kept (fun c => ¬ c = b) w w' := ⟨h.os, h.tape, h.output, h.size, fun k hk hlt => h.block k hlt (by intro e; injection e with e; exact hk e)⟩
theorem Holds.new_obj {w : World} {L : List Ent} (h : Holds w L) (o : Obj) : Holds (w.alloc o) (objE w.heap.size o :: L) :=
  h.new ((Ext.refl w).alloc _) (World.alloc_heap_new w o) fun b hb => Nat.le_of_eq (Eq.symm hb)
theorem Holds.put_obj {w : World} {L : List Ent} {b : Nat} {o : Obj} (H : Holds w (objE b o :: L)) (o' : Obj) : Holds (w.putObj b o') (objE b o' :: L) :=
  H.set rfl (grown_kept (grownBy_putObj' w b o')) (World.putObj_heap_same (Array.getElem?_eq_some_iff.1 H.head).1) fun c hc => .inl hc
def roundH {α : Type} (LJ : α → List Ent) (O : List Ent) : Exit → Act → World → Prop
  | .normal, _, W' => ∃ p, Holds W' (LJ p ++ O)
  | _, _, _ => False
theorem holds_mid {w : World} {a b c : List Ent} {e : Ent} (H : Holds w (a ++ e :: c)) : Holds w (e :: (a ++ c)) := H.perm List.perm_middle
theorem holds_mid' {w : World} {a c : List Ent} {e : Ent} (H : Holds w (e :: (a ++ c))) : Holds w (a ++ e :: c) := H.perm List.perm_middle.symm
theorem wpIn_rangeFunc_H {α β : Type} {F : Fence} {n : Nat} {P : Program} {g : Operand} {ps : Array Tmp} {assign body : Code} {Q : Exit → Act → World → Prop} {a : Act} {w : World}
    (hro : F.round = none) (h1 : 1 ≤ n) {gf : Nat} {lb : Array Value} (hg : a.eval g = .func (.func gf) #[] lb) (hFg : F.fn gf) (eg : ∀ args w, (callFunc gf args).run P w = .ok (.enter gf args) w)
    (LJ : Nat → α → List Ent) (LY : Nat → α → β → List Ent) (arg : Nat → α → β → Array Value) (more fin : Nat → Prop) (p0 : α) (hps : ∀ j p b, ps.size = (arg j p b).size)
    (H : Holds w (LJ 0 p0))
    (hseq : ∀ (l : Nat) (O : List Ent),
      (∀ j p b W, Holds W (LY j p b ++ O) → more j → YieldAt F (n - 1 - 1) P l (arg j p b) W fun e W' => e = .returned (.bool true) ∧ ∃ p', Holds W' (LJ (j + 1) p' ++ O)) →
      ∀ W, Holds W (LJ 0 p0 ++ O) → CallsIn F (n - 1) P gf (#[.func (.yield l) #[] #[]] ++ lb) W fun e W' => (∃ v, e = .returned v) ∧ ∃ j p, fin j ∧ Holds W' (LJ j p ++ O))
    (a₁ : Nat → α → β → Act)
    (hassign : ∀ (l j : Nat) (p : α) (b : β) (W : World) (K : Act → World → Prop), K (a₁ j p b) W →
      assign.wpIn (F.inRound l) (n - 1 - 1) P (Exit.then K (fun _ _ _ => False)) { tmps := (ps.zip (arg j p b)).foldl (fun t (p, v) => t.setIfInBounds p v) a.tmps, defers := [] } W)
    (hbody : ∀ (l j : Nat) (p : α) (b : β) (O : List Ent) (W : World), Holds W (LY j p b ++ O) → more j → body.wpIn (F.inRound l) (n - 1 - 1) P (roundH (LJ (j + 1)) O) (a₁ j p b) W)
    (hdone : ∀ (j : Nat) (p : α) (S : Nat) (O : List Ent) (W : World), fin j → Holds W (LJ j p ++ objE S (.deferred (some [])) :: O) → Q .normal { a with defers := { target := .collected S, args := #[] } :: a.defers } W) :
    (Code.rangeFunc g ps assign body).wpIn F n P Q a w := by
  refine wpIn_rangeFunc ?_
  intro fn hfn
  rw [hro]
  obtain ⟨S, hS⟩ : ∃ S, S = w.heap.size := ⟨_, rfl⟩
  obtain ⟨rec, hrec⟩ : ∃ rec : LoopState → Loop, rec = fun st => { state := st, pending := none, fn, tmps := a.tmps, params := ps, assign, body, defers := S } := ⟨_, rfl⟩
  obtain ⟨X, hX⟩ : ∃ X, X = w.alloc (.deferred (some [])) := ⟨_, rfl⟩
  have hXs : X.heap.size = S + 1 := by rw [hX, hS, World.size_alloc]
  obtain ⟨Y, hY⟩ : ∃ Y, Y = X.alloc (.loop (rec .ready)) := ⟨_, rfl⟩
  have HX : Holds X (objE S (.deferred (some [])) :: LJ 0 p0) := by rw [hX, hS]; exact H.new_obj _
  have HY : Holds Y (objE (S + 1) (.loop (rec .ready)) :: objE S (.deferred (some [])) :: LJ 0 p0) := by rw [hY, ← hXs]; exact HX.new_obj _
  refine ⟨S + 1, [{ target := .collected S, args := #[] }], Y, { target := .fn (.func gf) lb, args := #[.func (.yield (S + 1)) #[] #[]] }, Y, gf, #[.func (.yield (S + 1)) #[] #[]] ++ lb, Y, ?_, ?_, ?_, ?_, fun _ => h1, ?_⟩
  · rw [hY, hX, hrec, hS]
    exact run_enterLoop_outer _ _ _ _ _
  · simp only [resolve, hg]
    simp [go_sem]
  · intro f' hf'
    simp [Target.leads] at hf'
    subst hf'
    exact hFg
  · simp [invoke, go_sem, eg]
  · refine (hseq (S + 1) [objE (S + 1) (.loop (rec .ready)), objE S (.deferred (some []))] ?_ Y (HY.perm ?_)).mono ?_
    · intro j p b W HW hm
      have H2 := holds_mid (b := []) HW
      have hl := H2.head
      have hy := run_yield (P := P) (args := arg j p b) hl (by rw [hrec]; exact (hps j p b).symm)
      rw [hrec] at hy
      refine ⟨fn, _, assign, body, hy, roundIn_of_wpIn hfn (hassign _ j p b W _ ⟨_, run_beginRound hl (by rw [hrec]), ?_⟩)⟩
      obtain ⟨Z, hZ⟩ : ∃ Z, Z = W.putObj (S + 1) (.loop { rec .ready with state := .busy }) := ⟨_, rfl⟩
      rw [← hZ]
      have HZ : Holds Z (LY j p b ++ [objE (S + 1) (.loop { rec .ready with state := .busy }), objE S (.deferred (some []))]) := by rw [hZ]; exact holds_mid' (H2.put_obj _)
      refine wpIn_mono (hbody _ j p b _ Z HZ hm) ?_
      intro e a3 W3 hp
      cases e with
      | normal =>
        obtain ⟨p', H3⟩ := hp
        have H4 := holds_mid (b := []) H3
        have hl3 := H4.head
        have hr := run_endRound (P := P) none hl3
        refine ⟨_, _, hr, rfl, p', ?_⟩
        have H5 := holds_mid' (H4.put_obj (.loop { rec .ready with state := .ready }))
        rw [hrec] at H5 ⊢
        exact H5
      | ret => exact hp.elim
      | exit id => exact hp.elim
      | goto t => exact hp.elim
      | panic ch => exact hp.elim
      | outgrown => exact hp.elim
    · exact (List.perm_append_comm (l₁ := [objE (S + 1) (.loop (rec .ready)), objE S (.deferred (some []))]) (l₂ := LJ 0 p0))
    · rintro e W2 ⟨⟨v, rfl⟩, j, p, hm, H2⟩
      have H3 := holds_mid (b := []) H2
      have hl := H3.head
      refine ⟨none, _, by have := run_endLoop (P := P) hl (by rw [hrec]; simp); rw [hrec] at this; exact this, ?_⟩
      have H4 := H3.put_obj (.loop { rec .ready with state := .exhausted })
      have H5 : Holds (W2.putObj (S + 1) (.loop { rec .ready with state := .exhausted })) (LJ j p ++ objE S (.deferred (some [])) :: [objE (S + 1) (.loop { rec .ready with state := .exhausted })]) := H4.perm (by
        refine List.Perm.trans ?_ (List.Perm.append_left _ (List.Perm.swap _ _ _))
        exact List.perm_middle.symm)
      have := hdone j p S _ _ hm H5
      rw [hrec] at this
      exact this
end Go.Proofs.Ytdnioigcgggdbaa
namespace Go.Proofs.Ytdnioigcgggdbaa
open Go.RowKit Go.Shelf
attribute [local go_sem] Oper.semAt_some

section
variable {F : Fence} {f : Nat} {P : Program} {ops : Array Oper} {rest : List Oper} {a : Act} {w : World} {Q : Exit → Act → World → Prop} {dst : Option Tmp} {T : TypeId} {x y s : Operand} {ty : TypeId} {pos : String} {after : Array Edge} {L L' : List Ent}
theorem wplIn_load (H : Holds w L) {b k : Nat} (hx : a.eval x = .pointer (some ⟨b, k, none⟩)) {cs : List Value} {T' : TypeId} (hm : blk b cs T' ∈ L)
    (hs : Scalar P T) {v : Value} (hv : cs[k]? = some v) (h : wpListIn F f P ops Q rest (a.put dst v) w) : wpListIn F f P ops Q (⟨dst, .load T x, ty, pos, after, none⟩ :: rest) a w := by
  have hc : w.cell? ⟨b, k, none⟩ = some v := by rw [cell_of_row w b k _ T' (0, 0) (H.all _ hm)]; simpa using hv
  refine wpListIn_plain rfl fun K hK' => ?_
  unfold Oper.wpIn
  refine ⟨by simp [Oper.about], ?_⟩
  rw [Oper.semAt_plain F _ _ (by intro c hc'; cases hc')]
  have hr : (execOp a.eval ⟨dst, .load T x, ty, pos, after, none⟩).run P w = .ok (.value v) w := by
    unfold execOp
    simp [hx, Instr.loadAt, Instr.sureAddr, loadVar, run_isAgg_no hs, Sem.run_bind, hc, load, Sem.run]
  rw [hr]
  exact hK' _ _ h
theorem wplIn_store1 (H : Holds w L) {b k : Nat} (hx : a.eval x = .pointer (some ⟨b, k, none⟩)) {v : Value} (hy : a.eval y = v) (h1 : v.oneCell' = true)
    {cs : List Value} {T' : TypeId} (hm : Upd (blk b cs T') (blk b (setL cs k [v]) T') L L') (hs : SizeIs P T 1) (hk : k + 1 ≤ cs.length)
    (h : ∀ w', Holds w' L' → wpListIn F f P ops Q rest (a.put dst undef) w') : wpListIn F f P ops Q (⟨dst, .store T x y, ty, pos, after, none⟩ :: rest) a w := by
  have hb := H.all _ hm.mem
  have hy2 : (a.eval y).cells = [v].toArray := by rw [hy]; cases v <;> first | rfl | simp [Value.oneCell'] at h1
  have ht : w.there b k [v].toArray.size := fun j hj => by
    simp only [List.size_toArray, List.length_singleton] at hj
    refine ⟨?_, frozen_of_row w b (k + j) _ T' hb⟩
    rw [cell_of_row w b (k + j) _ T' (0, 0) hb]
    simp; omega
  have hr := run_storeVar_mid (P := P) w b k T [v].toArray ht (by unfold SizeIs at hs; simpa using hs) (by simp [h1])
  have he : ∀ A : Addr, storeVar T A (a.eval y) = storeVar T A (.agg [v].toArray) := fun A => by unfold storeVar; rw [hy2]; rfl
  refine wpListIn_plain rfl fun K hK' => ?_
  unfold Oper.wpIn
  refine ⟨by simp [Oper.about], ?_⟩
  rw [Oper.semAt_plain F _ _ (by intro c hc'; cases hc')]
  have hr2 : (execOp a.eval ⟨dst, .store T x y, ty, pos, after, none⟩).run P w = .ok .skip (w.setCells b k [v]) := by
    unfold execOp
    simp only [hx, Instr.storeAt, Instr.sureAddr, Sem.run_bind, Sem.run_pure, Result.andThen_ok, he, hr]
  rw [hr2]
  exact hK' _ _ (h _ (H.store hm))
theorem wplIn_app {t : TypeId} (H : Holds w L) {A : Option Addr} {n cap : Nat} (hs : a.eval s = .slice A n cap) {A2 : Option Addr} {m c : Nat} (hx : a.eval x = .slice A2 m c) {e : TypeId} {size : Nat} {xs : List Value} (hm : Pull (ownE e size (.slice A n cap) n xs) L L')
    {ys : List Value} (hr : Gives L fun w => Rd w size A2 m c ys) {z : Value} {bytes : Nat} (ht : P.underlying t = some (.slice e)) (hinfo : (P.info? e).map (fun i => (i.zero, i.size, i.bytes)) = some (some z, size, bytes))
    (hzs : z.cells.size = size) (hsz : 0 < size) (h1 : ∀ u ∈ ys, u.oneCell' = true) (h63 : n + m ≤ maxLen) (hbytes : (n + m) * bytes ≤ 140737488355328)
    (h : ∀ A' n' cap' w', Hid (n' = n + m) → Holds w' (ownE e size (.slice A' n' cap') n' (xs ++ ys) :: L') → n' ≤ cap' → cap' ≤ 9223372036854775807 → wpListIn F f P ops Q rest (a.put dst (.slice A' n' cap')) w') :
    wpListIn F f P ops Q (⟨dst, .call { callee := .builtin .append, args := #[s, x], argTypes := #[t, t] }, ty, pos, after, none⟩ :: rest) a w := by
  obtain ⟨i, hi, hz, hsize, hby⟩ := info_parts hinfo
  obtain ⟨A', n', cap', w', hrun, h2, h3, h4, h5⟩ := run_append_rd (P := P) 0 t ty e i z size bytes ht hi hz hsize hby hzs hsz (H.all _ hm.mem) (hr w H) h1 h63 hbytes (Nat.zero_le _)
  refine wpListIn_plain rfl fun K hK' => ?_
  unfold Oper.wpIn
  refine ⟨by simp [Oper.about, resolve, go_sem], ?_⟩
  rw [Oper.semAt_plain F _ _ (by intro c hc'; cases hc')]
  have hr2 : (execOp a.eval ⟨dst, .call { callee := .builtin .append, args := #[s, x], argTypes := #[t, t] }, ty, pos, after, none⟩).run P w = .ok (.value (.slice A' n' cap')) w' := by
    unfold execOp
    simp only [resolve, invoke, builtin, Sem.run_bind, Sem.run_pure, Result.andThen_ok, List.map_toArray, List.map_cons, List.map_nil, hs, hx, hrun]
  rw [hr2]
  exact hK' _ _ (h A' n' cap' w' h2 (H.grown hm h3 h4 h5) (own_le h3).1 (own_le h3).2)
theorem wplIn_slice1 {t e : TypeId} {z : Value} {size bytes : Nat} {vs : List Value} (H : Holds w L) (hx : (a.eval x).cells = vs.toArray) (ht : P.underlying t = some (.slice e)) (hinfo : (P.info? e).map (fun i => (i.zero, i.size, i.bytes)) = some (some z, size, bytes))
    (hzs : z.cells.size = size) (hl : vs.length = size) (h0 : 0 < size) (h24 : size ≤ 16777216) (h : ∀ b w', Holds w' (blk b vs e :: L) → wpListIn F f P ops Q rest (a.put dst (.slice (some ⟨b, 0, none⟩) 1 1)) w') :
    wpListIn F f P ops Q (⟨dst, .buildSlice t 1 #[(0, x)], ty, pos, after, none⟩ :: rest) a w := by
  have hr := run_slice1 (P := P) (w := w) hx ht hinfo hzs hl h0 h24
  refine wpListIn_plain rfl fun K hK' => ?_
  unfold Oper.wpIn
  refine ⟨by simp [Oper.about], ?_⟩
  rw [Oper.semAt_plain F _ _ (by intro c hc'; cases hc')]
  have hr2 : (execOp a.eval ⟨dst, .buildSlice t 1 #[(0, x)], ty, pos, after, none⟩).run P w = .ok (.value (.slice (some ⟨w.heap.size, 0, none⟩) 1 1)) (w.alloc (.cells vs.toArray e)) := by
    unfold execOp
    simp only [List.map_toArray, List.map_cons, List.map_nil, Sem.run_bind, hr, Result.andThen_ok, Sem.run_pure]
  rw [hr2]
  exact hK' _ _ (h _ _ (H.alloc vs e))
end
end Go.Proofs.Ytdnioigcgggdbaa
