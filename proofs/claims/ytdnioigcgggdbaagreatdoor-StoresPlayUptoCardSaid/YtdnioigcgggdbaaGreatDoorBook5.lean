/-
  A Book over bytes: grow.
-/
import Derived.Test.YtdnioigcgggdbaaGreatDoorBook4
set_option linter.unusedVariables false
set_option linter.unusedSimpArgs false
namespace Go.Proofs.YtdnioigcgggdbaaGreatDoor
open Go.RowKit

section
variable {P : Program} {ops : Array Oper} {rest : List Oper} {a : Act} {w : World} {Q : Exit → Act → World → Prop} {L L1 : List Ent} {dst : Option Tmp} {x y s : Operand} {ty : TypeId} {pos : String} {after : Array Edge} {gd : Option (Nat × Bool)}
/-- a store of one cell into a row of the call's own. -/
theorem wpl_storeC {T : TypeId} {L' : List Ent} (H : Holds w L) (hw : Region.wanted ⟨dst, .store T x y, ty, pos, after, gd⟩ (yielded ops a.tmps) = true)
    {b k : Nat} (hx : a.eval x = .pointer (some ⟨b, k, none⟩)) {v : Value} (hy : a.eval y = v) (h1 : v.oneCell' = true)
    {e : TypeId} {size n n' cap : Nat} {xs : List Value} (hm : Upd (ownE e size (.slice (some ⟨b, 0, none⟩) n cap) n' xs) (ownE e size (.slice (some ⟨b, 0, none⟩) n cap) n' (setL xs k [v])) L L') (hs : SizeIs P T 1) (hk : k + 1 ≤ xs.length)
    (h : ∀ w', Holds w' L' → wpList P ops Q rest (a.put dst undef) w') : wpList P ops Q (⟨dst, .store T x y, ty, pos, after, gd⟩ :: rest) a w := by
  have hw2 := H.writeO hm hk
  refine wpl_skip hw (w' := w.setCells b k [v]) ?_ (h _ hw2.2)
  have hc : (a.eval y).cells = [v].toArray := by rw [hy]; cases v <;> first | rfl | simp [Value.oneCell'] at h1
  have hr := run_storeVar_mid (P := P) w b k T [v].toArray (by simpa using hw2.1) (by unfold SizeIs at hs; simpa using hs) (by simp [h1])
  have he : ∀ A : Addr, storeVar T A (a.eval y) = storeVar T A (.agg [v].toArray) := fun A => by unfold storeVar; rw [hc]; rfl
  unfold execOp
  simp only [hx, Instr.storeAt, Instr.sureAddr, Sem.run_bind, Sem.run_pure, Result.andThen_ok, he, hr]
/-- one mark more behind long. -/
theorem wpl_appG {t : TypeId} (H : Holds w L) (hw : Region.wanted ⟨dst, .call { callee := .builtin .append, args := #[s, x], argTypes := #[t, t] }, ty, pos, after, gd⟩ (yielded ops a.tmps) = true)
    {e : TypeId} {A A2 : Option Addr} {n c n2 c2 q m : Nat} {mk : Value} (hm : Pull (grE e A n c A2 n2 c2 mk) L L1) (hs : a.eval s = .slice A2 n2 c2) (hx : a.eval x = .slice (some ⟨q, 0, none⟩) 1 m) {z : Value} {bytes : Nat} (ht : P.underlying t = some (.slice e))
    (hinfo : (P.info? e).map (fun i => (i.zero, i.size, i.bytes)) = some (some z, 1, bytes)) (hz1 : z.cells.size = 1) (hb : bytes ≤ 1000000) (hr : Gives L fun w => Rd w 1 (some ⟨q, 0, none⟩) 1 m [mk]) (h1 : mk.oneCell' = true) (h6 : n2 ≤ 1000000)
    (h : ∀ A' c' w', Holds w' (grE e A n c A' (n2 + 1) c' mk :: L1) → wpList P ops Q rest (a.put dst (.slice A' (n2 + 1) c')) w') :
    wpList P ops Q (⟨dst, .call { callee := .builtin .append, args := #[s, x], argTypes := #[t, t] }, ty, pos, after, gd⟩ :: rest) a w := by
  obtain ⟨A', c', w', hrun, H2⟩ := (H.pull hm).gr_app (P := P) (ty := ty) ht hinfo hz1 hb (hr w H) h1 h6
  refine wpl_run hw (v := .slice A' (n2 + 1) c') (w' := w') ?_ (h _ _ _ H2)
  unfold execOp
  simp only [resolve, invoke, builtin, Sem.run_bind, Sem.run_pure, Result.andThen_ok, List.map_toArray, List.map_cons, List.map_nil, hs, hx, hrun]
end
/-- the slice has grown by forty. -/
def Hd.grown (h : Hd) (A2 : Option Addr) (c2 : Nat) : Hd := ⟨h.A, h.n, h.c, h.xs, A2, h.n + 40, c2⟩
def stG (hs : List Hd) (k : Nat) : List Ent := hs.mapIdx fun i h => if i < k then grE 5 h.A h.n h.c h.A2 h.n2 h.c2 (mkV i) else rowE 5 h.A h.n h.c (List.replicate h.n (mkV i))
theorem stG_len (hs : List Hd) (k : Nat) : (stG hs k).length = hs.length := by unfold stG; simp
theorem stG_none (hs : List Hd) : stG hs 0 = stF hs hs.length := by
  apply List.ext_getElem?
  intro j
  unfold stG stF
  rw [List.getElem?_mapIdx, List.getElem?_mapIdx]
  cases e : hs[j]? with
  | none => rfl
  | some x =>
    have hl := (List.getElem?_eq_some_iff.1 e).1
    simp only [Option.map_some, Option.some.injEq]
    rw [if_neg (by omega), if_pos hl]
theorem stG_at {hs : List Hd} {i : Nat} {h : Hd} (e : hs[i]? = some h) : (stG hs i)[i]? = some (rowE 5 h.A h.n h.c (List.replicate h.n (mkV i))) := by
  unfold stG
  rw [List.getElem?_mapIdx, e]
  simp
theorem stG_next {hs : List Hd} {i : Nat} {h : Hd} (e : hs[i]? = some h) (h' : Hd) : (stG hs i).set i (grE 5 h'.A h'.n h'.c h'.A2 h'.n2 h'.c2 (mkV i)) = stG (hs.set i h') (i + 1) := by
  apply List.ext_getElem?
  intro j
  unfold stG
  rw [List.getElem?_set, List.getElem?_mapIdx, List.getElem?_mapIdx, List.getElem?_set]
  have hl := (List.getElem?_eq_some_iff.1 e).1
  by_cases hij : i = j
  · subst hij
    rw [if_pos rfl, if_pos (by simpa using hl), if_pos rfl, if_pos hl]
    simp
  · rw [if_neg hij, if_neg hij]
    cases hs[j]? with
    | none => rfl
    | some x =>
      simp only [Option.map_some, Option.some.injEq]
      by_cases h1 : j < i
      · rw [if_pos h1, if_pos (by omega)]
      · rw [if_neg h1, if_neg (by omega)]
theorem rowsOf_set : ∀ (k : Nat) (hs : List Hd) (i : Nat) (h : Hd) (A2 : Option Addr) (n2 c2 : Nat), hs[i]? = some h → setL (rowsOf k hs) (i * 3 + 1) [.slice A2 n2 c2] = rowsOf k (hs.set i ⟨h.A, h.n, h.c, h.xs, A2, n2, c2⟩)
  | _, [], i, h, _, _, _, e => by simp at e
  | k, x :: t, 0, h, A2, n2, c2, e => by
    simp at e
    subst e
    rfl
  | k, x :: t, i + 1, h, A2, n2, c2, e => by
    rw [List.getElem?_cons_succ] at e
    have := rowsOf_set (k + 1) t i h A2 n2 c2 e
    rw [List.set_cons_succ, rowsOf, rowsOf, ← this]
    have e3 : (hdRow x k).length = 3 := rfl
    simp only [setL]
    rw [List.set_append_right _ _ (by rw [e3]; omega), e3]
    congr 2
    omega
section
variable {W : World} {L L' L0 : List Ent} {R : Ending → World → Prop}
set_option maxRecDepth 100000 in
set_option maxHeartbeats 4000000 in
theorem grow_k {NN : Int} {r : List Value} {g nb cb : Nat} {B : Option Addr} {hs : List Hd} (hnb : nb ≤ 10000) (hl : hs.length = nb) (hh : ∀ h ∈ hs, h.n ≤ 100000)
    (H : Holds W (blk g (.int .i64 NN :: .slice B nb cb :: r) 49 :: ownE 121 3 (.slice B nb cb) nb (rowsOf 0 hs) :: (stG hs 0 ++ L0)))
    (k : ∀ hs' w', hs'.length = nb → (∀ (j : Nat) (h : Hd), hs'[j]? = some h → h.n ≤ 100000 ∧ h.n2 = h.n + 40) → Holds w' (blk g (.int .i64 NN :: .slice B nb cb :: r) 49 :: ownE 121 3 (.slice B nb cb) nb (rowsOf 0 hs') :: (stG hs' nb ++ L0)) → R (.returned (.tuple #[])) w') :
    Calls Tryz.prog 75 #[.pointer (some ⟨g, 0, none⟩)] W R := by
  have HK := Lib.hid k; clear k
  have Hl := Lib.hid hl
  have Hh := Lib.hid hh
  clear hl hh
  go_enter Tryz.func75, Tryz.ntmps75
  go_wp2_with (first | go_big_skip )
  go_loopw [2] (fun i wr => ∃ (i' : Nat) (hs' : List Hd), i' ≤ nb ∧ i = .int .i64 i' ∧ hs'.length = nb ∧ (∀ (j : Nat) (h : Hd), hs'[j]? = some h → h.n ≤ 100000 ∧ (j < i' → h.n2 = h.n + 40)) ∧ Holds wr (blk g (.int .i64 NN :: .slice B nb cb :: r) 49 :: ownE 121 3 (.slice B nb cb) nb (rowsOf 0 hs') :: (stG hs' i' ++ L0))) (fun i _ => nb - (intOf i).toNat)
  case atStart => exact ⟨0, hs, Nat.zero_le _, rfl, Hl.out, fun j h e => ⟨Hh.out h (List.mem_of_getElem? e), fun hj => by omega⟩, H⟩
  case round =>
    clear H Hl Hh
    obtain ⟨i, hs2, hi, rfl, hl2, hh2, H⟩ := hrel
    rename World => W
    have Hl := Lib.hid hl2
    have Hh := Lib.hid hh2
    clear hl2 hh2
    by_cases hlt : i < nb
    · have hki : (i : Int) < nb := by omega
      obtain ⟨h, he⟩ : ∃ h, hs2[i]? = some h := ⟨_, List.getElem?_eq_getElem (by rw [Hl.out]; exact hlt)⟩
      have hn1 := (Hh.out i h he).1
      have Hrow := Lib.hid (rowsOf_at 0 hs2 i h he)
      rw [Nat.zero_add] at Hrow
      have Hset := Lib.hid (fun A2 n2 c2 => rowsOf_set 0 hs2 i h A2 n2 c2 he)
      have Hnext := Lib.hid (stG_next he)
      have Hi := Lib.hid (show i < (stG hs2 i).length by rw [stG_len, Hl.out]; exact hlt)
      have Hrl := Lib.hid (show i * 3 + 1 + 1 ≤ (rowsOf 0 hs2).length by rw [rowsOf_len, Hl.out]; omega)
      have H2 := H.open_at (stG_at he)
      have He := Lib.hid he
      clear H he
      have H := H2
      clear H2
      obtain ⟨A, n, c, xs, A2, n2, c2⟩ := h
      simp only [hdRow] at Hrow
      simp only at H hn1 Hset Hnext
      have hown := H.all _ (.tail _ (.tail _ (.head _)))
      obtain ⟨bb, hbb⟩ := own_some hown (by omega)
      clear hown
      subst hbb
      go_wp2_with (first | ((with_reducible refine wpl_absorb H ?_); clear H; (first | ((fail_if_success (have _t := q1)); generalize W.heap.size = q1) ); (try clear W); intro W H) | ((with_reducible apply wpl_load H); (case hs => exact sc _ rfl); (case hw | hx => rfl); (case hm => (with_reducible repeat first | exact mH | apply mT)); (case hv => rfl)) | ((with_reducible apply wpl_store H); (case hw | hx | hy => rfl); (case hm => (with_reducible repeat first | exact Upd.here)); (case hs => exact sz_ag _ _ rfl); (case h1 => rfl); (case hk => exact Nat.le_of_ble_eq_true rfl); clear H; (try clear W); intro W H; first | simp only [setL, List.set_cons_zero, List.set_cons_succ] at H) | ((with_reducible apply wpl_loadR0 H); (case hs => exact ag _ _ rfl); (case hw | hx => rfl); (case hm => (apply gives_own; (case h => (with_reducible repeat first | exact mH | apply mT)); (case hn => rfl))); (case hk | hn => omega); (case hv => exact Hrow.out)))
      go_loopw [4, 5] (fun t j wr => ∃ (j' : Nat) (A' : Option Addr) (c' : Nat), j' ≤ 40 ∧ t = .slice A' (n + j') c' ∧ j = .int .i64 j' ∧ Holds wr (blk q1 [.slice A n c, .slice A2 n2 c2, .int .i64 ((i : Int) + 1)] 121 :: grE 5 A n c A' (n + j') c' (mkV i) :: blk g (.int .i64 NN :: .slice (some ⟨bb, 0, none⟩) nb cb :: r) 49 :: ownE 121 3 (.slice (some ⟨bb, 0, none⟩) nb cb) nb (rowsOf 0 hs2) :: (restE (stG hs2 i) i ++ L0))) (fun _ j _ => 40 - (intOf j).toNat)
      case atStart =>
        have H3 := (H.pull (.there .here)).to_gr
        exact ⟨0, A, c, by omega, rfl, rfl, H3.perm (List.Perm.swap _ _ _)⟩
      case round =>
        clear H
        obtain ⟨j, A', c', hj, rfl, rfl, H⟩ := hrel
        rename World => W
        by_cases hjn : j < 40
        · have hji : (j : Int) < 40 := by omega
          go_wp2_with (first | ((with_reducible refine wpl_absorb H ?_); clear H; (first | generalize W.heap.size = q0); (try clear W); intro W H) | ((with_reducible apply wpl_load H); (case hs => exact sc _ rfl); (case hw | hx => rfl); (case hm => (with_reducible repeat first | exact mH)); (case hv => rfl)) | ((with_reducible apply mark_k (n := i + 1)); (case H => exact H); (case hN => rfl); clear H; (try clear W); intro W H) | ((with_reducible apply wpl_appG H); (case hw | hs | hx => rfl); (case hm => (with_reducible repeat first | exact Pull.here | apply Pull.there)); (case ht => exact Tryz.underlying50); (case hinfo => exact inf_5); (case hz1 => rfl); (case hb => decide); (case hr => exact gives_blk (by (with_reducible repeat first | exact mH)) rfl (by decide)); (case h1 => rfl); (case h6 => omega); clear H; (try clear W); intro A3 c3 W H))
          rw [Nat.add_assoc n j 1] at H
          exact ⟨⟨j + 1, A3, c3, by omega, rfl, congrArg (Value.int .i64) (by omega), Reord.use H (by ((repeat (with_reducible apply Reord.cons; (case p => (with_reducible repeat first | exact Pull.here | apply Pull.there)))); repeat (first | with_reducible exact Reord.rest | with_reducible apply Reord.drop)))⟩, by simp only [intOf]; omega⟩
        · have hj40 : j = 40 := by omega
          subst hj40
          go_wp2_with (first | ((with_reducible apply wpl_load H); (case hs => exact sc _ rfl); (case hw | hx => rfl); (case hm => (with_reducible repeat first | exact mH | apply mT)); (case hv => rfl)) | ((with_reducible apply wpl_storeC (v := .slice A' (n + 40) c') H); (case hw | hx => rfl); (case hy | h1 => rfl); (case hm => (with_reducible repeat first | exact Upd.here | apply Upd.there)); (case hs => exact sz_sc _ rfl); (case hk => exact Hrl.out); clear H; (try clear W); intro W H))
          rw [Hset.out] at H
          have H3 := H.tail.shut_at Hi.out
          have e3 := Hnext.out ⟨A, n, c, xs, A', n + 40, c'⟩
          simp only at e3
          rw [e3] at H3
          refine ⟨⟨i + 1, _, by omega, congrArg (Value.int .i64) (by omega), by rw [List.length_set]; exact Hl.out, fun j h e => ?_, H3⟩, by simp only [intOf]; omega⟩
          rw [List.getElem?_set] at e
          split at e
          · rename_i hij
            subst hij
            rw [if_pos (by rw [Hl.out]; exact hlt)] at e
            injection e with e
            subst e
            exact ⟨hn1, fun _ => rfl⟩
          · rename_i hij
            exact ⟨(Hh.out j h e).1, fun hj2 => (Hh.out j h e).2 (by omega)⟩
    · have hin : i = nb := by omega
      subst hin
      have hki : ¬ (i : Int) < i := by omega
      go_wp2_with (first | ((with_reducible apply wpl_load H); (case hs => exact sc _ rfl); (case hw | hx => rfl); (case hm => (with_reducible repeat first | exact mH)); (case hv => rfl)) )
      go_end0
      exact HK.out hs2 _ Hl.out (fun j h e => ⟨(Hh.out j h e).1, (Hh.out j h e).2 (by have := (List.getElem?_eq_some_iff.1 e).1; have := Hl.out; omega)⟩) H
end
end Go.Proofs.YtdnioigcgggdbaaGreatDoor
