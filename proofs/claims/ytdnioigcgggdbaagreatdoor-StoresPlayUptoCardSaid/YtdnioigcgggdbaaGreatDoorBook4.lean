/-
  A Book over bytes: fill.
-/
import Derived.Test.YtdnioigcgggdbaaGreatDoorBook3
set_option linter.unusedVariables false
set_option linter.unusedSimpArgs false
namespace Go.Proofs.YtdnioigcgggdbaaGreatDoor
open Go.RowKit

/-- a slice that a Book holds. -/
structure Hd where
  A : Option Addr
  n : Nat
  c : Nat
  xs : List Value
  A2 : Option Addr
  n2 : Nat
  c2 : Nat
def hdRow (h : Hd) (i : Nat) : List Value := [.slice h.A h.n h.c, .slice h.A2 h.n2 h.c2, .int .i64 ((i : Int) + 1)]
def rowsOf : Nat → List Hd → List Value
  | _, [] => []
  | k, h :: t => hdRow h k ++ rowsOf (k + 1) t
theorem rowsOf_len : ∀ (k : Nat) (hs : List Hd), (rowsOf k hs).length = hs.length * 3
  | _, [] => rfl
  | k, h :: t => by
    rw [rowsOf, List.length_append, rowsOf_len (k + 1) t, List.length_cons]
    show 3 + _ = _
    omega
theorem rowsOf_at : ∀ (k : Nat) (hs : List Hd) (i : Nat) (h : Hd), hs[i]? = some h → ((rowsOf k hs).drop (i * 3)).take 3 = hdRow h (k + i)
  | _, [], i, h, e => by simp at e
  | k, x :: t, 0, h, e => by
    simp at e
    subst e
    rfl
  | k, x :: t, i + 1, h, e => by
    rw [List.getElem?_cons_succ] at e
    rw [rowsOf, show (i + 1) * 3 = 3 + i * 3 by omega, ← List.drop_drop, show List.drop 3 (hdRow x k ++ rowsOf (k + 1) t) = rowsOf (k + 1) t from rfl, rowsOf_at (k + 1) t i h e]
    congr 1
    omega
abbrev mkV (i : Nat) : Value := .int .u8 ((markB (i + 1)).toNat : Nat)
def stF (hs : List Hd) (k : Nat) : List Ent := hs.mapIdx fun i h => if i < k then rowE 5 h.A h.n h.c (List.replicate h.n (mkV i)) else rowE 5 h.A h.n h.c h.xs
theorem stF_len (hs : List Hd) (k : Nat) : (stF hs k).length = hs.length := by unfold stF; simp
theorem stF_at {hs : List Hd} {i : Nat} {h : Hd} (e : hs[i]? = some h) : (stF hs i)[i]? = some (rowE 5 h.A h.n h.c h.xs) := by
  unfold stF
  rw [List.getElem?_mapIdx, e]
  simp
theorem stF_next {hs : List Hd} {i : Nat} {h : Hd} (e : hs[i]? = some h) : (stF hs i).set i (rowE 5 h.A h.n h.c (List.replicate h.n (mkV i))) = stF hs (i + 1) := by
  apply List.ext_getElem?
  intro j
  unfold stF
  rw [List.getElem?_set, List.getElem?_mapIdx, List.getElem?_mapIdx]
  by_cases hij : i = j
  · subst hij
    have hl := (List.getElem?_eq_some_iff.1 e).1
    rw [if_pos rfl, if_pos (by simpa using hl), e]
    simp
  · rw [if_neg hij]
    cases hs[j]? with
    | none => rfl
    | some x =>
      simp only [Option.map_some, Option.some.injEq]
      by_cases h1 : j < i
      · rw [if_pos h1, if_pos (by omega)]
      · rw [if_neg h1, if_neg (by omega)]
def restE (es : List Ent) (i : Nat) : List Ent := es.take i ++ es.drop (i + 1)
theorem perm2 {α : Type} (a b : α) (es L : List α) : (a :: b :: (es ++ L)).Perm (es ++ (a :: b :: L)) :=
  ((List.perm_middle (a := b) (l₁ := es) (l₂ := L)).symm.cons a).trans (List.perm_middle (a := a) (l₁ := es) (l₂ := b :: L)).symm
theorem Holds.open_at {w : World} {a b x : Ent} {es L : List Ent} {i : Nat} (H : Holds w (a :: b :: (es ++ L))) (hi : es[i]? = some x) : Holds w (x :: a :: b :: (restE es i ++ L)) := by
  have h1 := (H.perm (perm2 a b es L)).take_out hi
  exact h1.perm ((perm2 a b (restE es i) L).symm.cons x)
theorem Holds.shut_at {w : World} {a b x : Ent} {es L : List Ent} {i : Nat} (H : Holds w (x :: a :: b :: (restE es i ++ L))) (hi : i < es.length) : Holds w (a :: b :: (es.set i x ++ L)) := by
  have h1 : Holds w (x :: ((es.take i ++ es.drop (i + 1)) ++ (a :: b :: L))) := H.perm ((perm2 a b (restE es i) L).cons x)
  exact (h1.put_in hi).perm (perm2 a b (es.set i x) L).symm
section
variable {W : World} {L L' L0 : List Ent} {R : Ending → World → Prop}
set_option maxRecDepth 100000 in
set_option maxHeartbeats 4000000 in
theorem fill_k {NN : Int} {r : List Value} {g nb cb : Nat} {B : Option Addr} {hs : List Hd} (hnb : nb ≤ 10000) (hl : hs.length = nb) (hh : ∀ h ∈ hs, h.n ≤ 100000 ∧ h.xs.length = h.n)
    (H : Holds W (blk g (.int .i64 NN :: .slice B nb cb :: r) 49 :: ownE 121 3 (.slice B nb cb) nb (rowsOf 0 hs) :: (stF hs 0 ++ L0)))
    (k : ∀ w', Holds w' (blk g (.int .i64 NN :: .slice B nb cb :: r) 49 :: ownE 121 3 (.slice B nb cb) nb (rowsOf 0 hs) :: (stF hs nb ++ L0)) → R (.returned (.tuple #[])) w') :
    Calls Tryz.prog 66 #[.pointer (some ⟨g, 0, none⟩)] W R := by
  have HK := Lib.hid k; clear k
  have Hl := Lib.hid hl
  have Hh := Lib.hid hh
  clear hl hh
  go_enter Tryz.func66, Tryz.ntmps66
  go_wp2_with (first | go_big_skip )
  go_loopw [2] (fun i wr => ∃ i' : Nat, i' ≤ nb ∧ i = .int .i64 i' ∧ Holds wr (blk g (.int .i64 NN :: .slice B nb cb :: r) 49 :: ownE 121 3 (.slice B nb cb) nb (rowsOf 0 hs) :: (stF hs i' ++ L0))) (fun i _ => nb - (intOf i).toNat)
  case atStart => exact ⟨0, Nat.zero_le _, rfl, H⟩
  case round =>
    clear H
    obtain ⟨i, hi, rfl, H⟩ := hrel
    rename World => W
    by_cases hlt : i < nb
    · have hki : (i : Int) < nb := by omega
      obtain ⟨h, he⟩ : ∃ h, hs[i]? = some h := ⟨_, List.getElem?_eq_getElem (by rw [Hl.out]; exact hlt)⟩
      have hn := Hh.out h (List.mem_of_getElem? he)
      have Hrow := Lib.hid (rowsOf_at 0 hs i h he)
      rw [Nat.zero_add] at Hrow
      have Hnext := Lib.hid (stF_next he)
      have Hi := Lib.hid (show i < (stF hs i).length by rw [stF_len, Hl.out]; exact hlt)
      have H2 := H.open_at (stF_at he)
      clear H he
      have H := H2
      clear H2
      obtain ⟨A, n, c, xs, A2, n2, c2⟩ := h
      simp only [hdRow] at Hrow
      simp only at H hn
      have hxl := Lib.hid hn.2
      have hn1 := hn.1
      clear hn
      have hown := H.all _ (.tail _ (.tail _ (.head _)))
      obtain ⟨bb, hbb⟩ := own_some hown (by omega)
      clear hown
      subst hbb
      go_wp2_with (first | ((with_reducible refine wpl_absorb H ?_); clear H; (first | ((fail_if_success (have _t := q1)); generalize W.heap.size = q1) ); (try clear W); intro W H) | ((with_reducible apply wpl_load H); (case hs => exact sc _ rfl); (case hw | hx => rfl); (case hm => (with_reducible repeat first | exact mH | apply mT)); (case hv => rfl)) | ((with_reducible apply wpl_store H); (case hw | hx | hy => rfl); (case hm => (with_reducible repeat first | exact Upd.here)); (case hs => exact sz_ag _ _ rfl); (case h1 => rfl); (case hk => exact Nat.le_of_ble_eq_true rfl); clear H; (try clear W); intro W H; first | simp only [setL, List.set_cons_zero, List.set_cons_succ] at H) | ((with_reducible apply wpl_loadR0 H); (case hs => exact ag _ _ rfl); (case hw | hx => rfl); (case hm => (apply gives_own; (case h => (with_reducible repeat first | exact mH | apply mT)); (case hn => rfl))); (case hk | hn => omega); (case hv => exact Hrow.out)))
      go_loopw [4] (fun j wr => ∃ j' : Nat, j' ≤ n ∧ j = .int .i64 j' ∧ Holds wr (blk q1 [.slice A n c, .slice A2 n2 c2, .int .i64 ((i : Int) + 1)] 121 :: rowE 5 A n c (filled (mkV i) xs j') :: blk g (.int .i64 NN :: .slice (some ⟨bb, 0, none⟩) nb cb :: r) 49 :: ownE 121 3 (.slice (some ⟨bb, 0, none⟩) nb cb) nb (rowsOf 0 hs) :: (restE (stF hs i) i ++ L0))) (fun j _ => n - (intOf j).toNat)
      case atStart => exact ⟨0, Nat.zero_le _, rfl, by rw [filled_none]; exact H⟩
      case round =>
        clear H
        obtain ⟨j, hj, rfl, H⟩ := hrel
        rename World => W
        by_cases hjn : j < n
        · have hji : (j : Int) < n := by omega
          have hrow := H.all _ (.tail _ (.head _))
          obtain ⟨ab, hab⟩ := row_some hrow (by omega)
          clear hrow
          subst hab
          have Hset := Lib.hid (filled_set (mk := mkV i) (show j < xs.length by rw [hxl.out]; exact hjn))
          go_wp2_with (first | ((with_reducible apply wpl_load H); (case hs => exact sc _ rfl); (case hw | hx => rfl); (case hm => (with_reducible repeat first | exact mH)); (case hv => rfl)) )
          ((refine wp_region_J [7] H (by kernel_rfl) ?_); clear H; (try clear W); intro W H; (apply anyJ_takeP 0 (oi := Oper.mk _ _ _ _ _ _) rfl); (case hs | hf => kernel_rfl); (case hr | hF => kernel_rfl); (case hQ => exact fun _ _ _ h => h); (case H => first | exact .inr H ); (case hy => first | (apply yields_pure rfl; intro w; first | (go_simp; with_reducible rfl) )); (try simp only [Act.put, sA, sB, sC]); (apply anyJ_takeP 2 (oi := Oper.mk _ _ _ _ _ _) rfl); (case hs | hf => kernel_rfl); (case hr | hF => kernel_rfl); (case hQ => exact fun _ _ _ h => h); (case H => first | exact .inr H ); (case hy => first | (apply yields_pure rfl; intro w; first | (go_simp; with_reducible rfl) )); (try simp only [Act.put, sA, sB, sC]); (apply anyJ_takeP 3 (oi := Oper.mk _ _ _ _ _ _) rfl); (case hs | hf => kernel_rfl); (case hr | hF => kernel_rfl); (case hQ => exact fun _ _ _ h => h); (case H => first | exact .inr H ); (case hy => first | (apply yields_pure rfl; intro w; first | (go_simp; with_reducible rfl) )); (try simp only [Act.put, sA, sB, sC]); (apply anyJ_take 1 (oi := Oper.mk _ _ _ _ _ _) rfl); (case hs | hf => kernel_rfl); (case hr | hc | hF => kernel_rfl); (case hQ => exact fun _ _ _ h => h); (case H => first | exact H ); (case hy => (first | ((apply yields_load); (case hs => exact sc _ rfl); (case hw | hx => rfl); (case hm => (with_reducible repeat first | exact mH)); (case hv => rfl)) )); (try simp only [Act.put, sA, sB, sC]); (apply anyJ_take 4 (oi := Oper.mk _ _ _ _ _ _) rfl); (case hs | hf => kernel_rfl); (case hr | hc | hF => kernel_rfl); (case hQ => exact fun _ _ _ h => h); (case H => first | exact H ); (case hy => (first | ((apply yields_load); (case hs => exact sc _ rfl); (case hw | hx => rfl); (case hm => (with_reducible repeat first | exact mH)); (case hv => rfl)) )); (try simp only [Act.put, sA, sB, sC]); (apply anyJ_one 5 (o := Oper.mk _ _ _ _ _ _)); (case hr => kernel_rfl); (case hi | hw => rfl); intro K hK; (first | (first | (go_simp; (with_reducible apply mark_k (n := i + 1)); (case H => exact H); (case hN => rfl); clear H; (try clear W); intro W H) ) ); (refine hK.out _ _ ?_ ?_); (· first | exact .inr H ); clear hK K; (try simp only [Act.put, sA, sB, sC]); (apply anyJ_takeP 6 (oi := Oper.mk _ _ _ _ _ _) rfl); (case hs | hf => kernel_rfl); (case hr | hF => kernel_rfl); (case hQ => exact fun _ _ _ h => h); (case H => first | exact .inr H ); (case hy => first | (apply yields_pure rfl; intro w; first | (go_simp; with_reducible rfl) )); (try simp only [Act.put, sA, sB, sC]); (apply anyJ_one 7 (o := Oper.mk _ _ _ _ _ _)); (case hr => kernel_rfl); (case hi | hw => rfl); intro K hK; (first | (first | ((with_reducible apply opw_row (v := mkV i) H); (case hx | hy | h1 => rfl); (case hm => (with_reducible repeat first | exact Pull.here | apply Pull.there)); (case hs => exact sz_sc _ rfl); (case hk => exact hjn); clear H; (try clear W); intro W H)) ); (refine hK.out _ _ ?_ ?_); (· first | exact .inl rfl ); clear hK K; (try simp only [Act.put, sA, sB, sC]); (apply anyJ_done (by kernel_rfl)))
          rw [Hset.out] at H
          go_wp2_with (first | go_big_skip )
          exact ⟨⟨j + 1, by omega, congrArg (Value.int .i64) (by omega), Reord.use H (by ((repeat (with_reducible apply Reord.cons; (case p => (with_reducible repeat first | exact Pull.here | apply Pull.there)))); repeat (with_reducible exact Reord.rest)))⟩, by simp only [intOf]; omega⟩
        · have hjn2 : j = n := by omega
          subst hjn2
          have hji : ¬ (j : Int) < j := by omega
          go_wp2_with (first | ((with_reducible apply wpl_load H); (case hs => exact sc _ rfl); (case hw | hx => rfl); (case hm => (with_reducible repeat first | exact mH)); (case hv => rfl)) )
          rw [filled_all hxl.out] at H
          have H3 := (H.tail.shut_at Hi.out)
          rw [Hnext.out] at H3
          exact ⟨⟨i + 1, by omega, congrArg (Value.int .i64) (by omega), H3⟩, by simp only [intOf]; omega⟩
    · have hin : i = nb := by omega
      subst hin
      have hki : ¬ (i : Int) < i := by omega
      go_wp2_with (first | ((with_reducible apply wpl_load H); (case hs => exact sc _ rfl); (case hw | hx => rfl); (case hm => (with_reducible repeat first | exact mH)); (case hv => rfl)) )
      go_end0
      exact HK.out _ H
end
end Go.Proofs.YtdnioigcgggdbaaGreatDoor
