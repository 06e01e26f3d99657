/-
  A slice and what was appended behind it, as one entry; the entries that a Book holds.
-/
import Derived.Test.YtaegjjaabeakoaaDoorBook1
set_option linter.unusedVariables false
set_option linter.unusedSimpArgs false
namespace Go.Proofs.YtaegjjaabeakoaaDoor
open Go.RowKit

/-- l reads as n marks, long as n2: in one block, or in two. -/
def grW (w : World) (e : TypeId) (A : Option Addr) (n c : Nat) (A2 : Option Addr) (n2 c2 : Nat) (mk : Value) : Prop :=
  n ≤ n2 ∧ ((A2 = A ∧ c2 = c ∧ rowW w e A2 n2 c2 (List.replicate n2 mk)) ∨ (rowW w e A n c (List.replicate n mk) ∧ rowW w e A2 n2 c2 (List.replicate n2 mk) ∧ ∀ b, blockOf A = some b → blockOf A2 ≠ some b))
theorem rowW.kept {w w' : World} {e : TypeId} {A : Option Addr} {n c : Nat} {xs : List Value} (h : rowW w e A n c xs) (hk : ∀ b, blockOf A = some b → b < w.heap.size → w'.heap[b]? = w.heap[b]?) : rowW w' e A n c xs := by
  refine ⟨h.1, ?_⟩
  rcases h.2 with h2 | ⟨b, arr, h3, h4, r⟩
  · exact .inl h2
  · exact .inr ⟨b, arr, h3, (hk b (by rw [h3]; rfl) (Array.getElem?_eq_some_iff.1 h4).1).trans h4, r⟩
theorem rowW.lt {w : World} {e : TypeId} {A : Option Addr} {n c : Nat} {xs : List Value} (h : rowW w e A n c xs) {b : Nat} (hb : blockOf A = some b) : b < w.heap.size := by
  rcases h.2 with ⟨h2, -⟩ | ⟨b', arr, h3, h4, r⟩
  · rw [h2] at hb; cases hb
  · rw [h3] at hb
    injection hb with hb
    subst hb
    exact (Array.getElem?_eq_some_iff.1 h4).1
def grE (e : TypeId) (A : Option Addr) (n c : Nat) (A2 : Option Addr) (n2 c2 : Nat) (mk : Value) : Ent :=
  ⟨true, fun b => blockOf A = some b ∨ blockOf A2 = some b, fun w => grW w e A n c A2 n2 c2 mk,
   fun w w' hk h => by
    obtain ⟨h0, ⟨h1, h2, h3⟩ | ⟨h1, h2, h3⟩⟩ := h
    · exact ⟨h0, .inl ⟨h1, h2, h3.kept fun b hb hlt => hk.block b (.inr hb) hlt⟩⟩
    · exact ⟨h0, .inr ⟨h1.kept fun b hb hlt => hk.block b (.inl hb) hlt, h2.kept fun b hb hlt => hk.block b (.inr hb) hlt, h3⟩⟩,
   fun w h b hb => by
    obtain ⟨h0, ⟨h1, h2, h3⟩ | ⟨h1, h2, h3⟩⟩ := h
    · subst h1
      exact h3.lt (hb.elim id id)
    · rcases hb with hb | hb
      · exact h1.lt hb
      · exact h2.lt hb⟩
theorem Holds.to_gr {w : World} {L : List Ent} {e : TypeId} {A : Option Addr} {n c : Nat} {mk : Value} (H : Holds w (rowE e A n c (List.replicate n mk) :: L)) : Holds w (grE e A n c A n c mk :: L) :=
  H.set rfl (.refl _ w) ⟨Nat.le_refl _, .inl ⟨rfl, rfl, H.head⟩⟩ fun b hb => .inl (hb.elim id id)
/-- what l and long read as. -/
theorem gr_reads {w : World} {e : TypeId} {A : Option Addr} {n c : Nat} {A2 : Option Addr} {n2 c2 : Nat} {mk : Value} (h : grW w e A n c A2 n2 c2 mk) : Rd w 1 A n c (List.replicate n mk) ∧ Rd w 1 A2 n2 c2 (List.replicate n2 mk) := by
  obtain ⟨h0, ⟨h1, h2, h3⟩ | ⟨h1, h2, h3⟩⟩ := h
  · subst h1 h2
    refine ⟨row_rd (e := e) ?_, row_rd h3⟩
    refine ⟨by simp, ?_⟩
    rcases h3.2 with ⟨a1, a2, a3⟩ | ⟨b, arr, a3, a4, a5, a6, a7, a8⟩
    · exact .inl ⟨a1, by omega, a3⟩
    · refine .inr ⟨b, arr, a3, a4, by omega, a6, a7, ?_⟩
      have := congrArg (List.take n) a8
      rw [List.take_take, Nat.min_eq_left h0, List.take_replicate, Nat.min_eq_left h0] at this
      exact this
  · exact ⟨row_rd h1, row_rd h2⟩
/-- one mark more behind long. -/
theorem Holds.gr_app {P : Program} {w : World} {L : List Ent} {t ty e : TypeId} {z : Value} {bytes : Nat} (ht : P.underlying t = some (.slice e)) (hinfo : (P.info? e).map (fun i => (i.zero, i.size, i.bytes)) = some (some z, 1, bytes)) (hz1 : z.cells.size = 1) (hb : bytes ≤ 1000000)
    {A A2 : Option Addr} {n c n2 c2 q m : Nat} {mk : Value} (H : Holds w (grE e A n c A2 n2 c2 mk :: L)) (hr : Rd w 1 (some ⟨q, 0, none⟩) 1 m [mk]) (h1 : mk.oneCell' = true) (h6 : n2 ≤ 1000000) :
    ∃ A' c' w', (Builtin.append_ #[t, t] ty #[.slice A2 n2 c2, .slice (some ⟨q, 0, none⟩) 1 m]).run P w = .ok (.slice A' (n2 + 1) c') w' ∧ Holds w' (grE e A n c A' (n2 + 1) c' mk :: L) := by
  have h := H.head
  have h0 := h.1
  have hrow : rowW w e A2 n2 c2 (List.replicate n2 mk) := by
    rcases h.2 with ⟨-, -, h3⟩ | ⟨-, h3, -⟩ <;> exact h3
  obtain ⟨A', c', w', hrun, hro, hcase⟩ := run_row_app (P := P) (ty := ty) ht hinfo hz1 hb hrow hr h1 h6
  have hrep : List.replicate n2 mk ++ [mk] = List.replicate (n2 + 1) mk := by rw [List.replicate_succ']
  rw [hrep] at hro
  refine ⟨A', c', w', hrun, ?_⟩
  rcases hcase with ⟨rfl, rfl, ⟨b, hb2, hg⟩, -⟩ | ⟨hb2, hx⟩
  · refine H.set rfl ⟨hg.os, hg.tape, hg.output, hg.size, fun k hk hlt => hg.block k hlt (fun e => hk (.inr (by rw [hb2]; injection e with e; rw [e]; rfl)))⟩ ⟨by omega, ?_⟩ fun k hk => .inl hk
    rcases h.2 with ⟨e1, e2, -⟩ | ⟨e1, -, e3⟩
    · exact .inl ⟨e1, e2, hro⟩
    · refine .inr ⟨e1.kept fun k hk hlt => hg.block k hlt (fun e => ?_), hro, e3⟩
      injection e with e
      subst e
      exact e3 _ hk (by rw [hb2]; rfl)
  · refine H.set rfl ⟨hx.os, hx.tape, hx.output, hx.size, fun k _ hlt => hx.block k hlt⟩ ⟨by omega, .inr ⟨?_, hro, fun k hk hk2 => ?_⟩⟩ fun k hk => ?_
    · have := (gr_reads h).1
      rcases h.2 with ⟨e1, e2, e3⟩ | ⟨e1, -, -⟩
      · subst e1 e2
        refine (show rowW w e A2 n c2 (List.replicate n mk) from ⟨by simp, ?_⟩).kept fun k hk hlt => hx.block k hlt
        rcases e3.2 with ⟨a1, a2, a3⟩ | ⟨b, arr, a3, a4, a5, a6, a7, a8⟩
        · exact .inl ⟨a1, by omega, a3⟩
        · refine .inr ⟨b, arr, a3, a4, by omega, a6, a7, ?_⟩
          have := congrArg (List.take n) a8
          rw [List.take_take, Nat.min_eq_left h0, List.take_replicate, Nat.min_eq_left h0] at this
          exact this
      · exact e1.kept fun k hk hlt => hx.block k hlt
    · have hlt : k < w.heap.size := H.head |> fun h => (grE e A n c A2 n2 c2 mk).inb w h k (.inl hk)
      rw [hb2] at hk2
      injection hk2 with hk2
      omega
    · rcases hk with hk | hk
      · exact .inl (.inl hk)
      · rw [hb2] at hk
        injection hk with hk
        exact .inr (by omega)
/-! ### a list of entries, one of them taken out -/
theorem Holds.take_out {w : World} {L es : List Ent} {i : Nat} {x : Ent} (H : Holds w (es ++ L)) (hi : es[i]? = some x) : Holds w (x :: ((es.take i ++ es.drop (i + 1)) ++ L)) := by
  have hlt := (List.getElem?_eq_some_iff.1 hi).1
  have e : es = es.take i ++ x :: es.drop (i + 1) := by
    have h1 := (List.getElem?_eq_some_iff.1 hi).2
    rw [← h1, List.getElem_cons_drop, List.take_append_drop]
  have : (es ++ L).Perm (x :: ((es.take i ++ es.drop (i + 1)) ++ L)) := by
    conv => lhs; rw [e]
    rw [List.append_assoc, List.cons_append, List.append_assoc]
    exact List.perm_middle
  exact H.perm this
theorem Holds.put_in {w : World} {L es : List Ent} {i : Nat} {x : Ent} (H : Holds w (x :: ((es.take i ++ es.drop (i + 1)) ++ L))) (hi : i < es.length) : Holds w (es.set i x ++ L) := by
  have e : es.set i x = es.take i ++ x :: es.drop (i + 1) := by rw [List.set_eq_take_append_cons_drop, if_pos hi]
  rw [e, List.append_assoc, List.cons_append]
  rw [List.append_assoc] at H
  exact H.perm List.perm_middle.symm
end Go.Proofs.YtaegjjaabeakoaaDoor
