/-
  A block that the run-time has marked: []byte("..").
-/
import Derived.Test.YtdnioigcgggdbaaMem2
import Derived.Test.YtdnioigcgggdbaaSz
set_option linter.unusedVariables false
set_option linter.unusedSimpArgs false
namespace Go.Proofs.Ytdnioigcgggdbaa
open Go.RowKit

/-- a block known whole, which the run-time has marked behind its last cell. -/
def blkF (b : Nat) (cs : List Value) (T : TypeId) (f : Nat × Nat) : Ent :=
  ⟨true, (· = b), fun w => w.heap[b]? = some (.cells cs.toArray T f),
   fun w w' hk h => by
    have hb : b < w.heap.size := (Array.getElem?_eq_some_iff.1 h).1
    exact (hk.block b rfl hb).trans h,
   fun w h c hc => by obtain rfl : c = b := hc; exact (Array.getElem?_eq_some_iff.1 h).1⟩
theorem gives_blkF {L : List Ent} {b n : Nat} {cs : List Value} {T : TypeId} {f : Nat × Nat} (h : blkF b cs T f ∈ L) (hn : cs.length = n) (hl : n ≤ 1000000) : Gives L fun w => Rd w 1 (some ⟨b, 0, none⟩) n n cs := fun w H =>
  ⟨Nat.le_refl _, by simp only [maxLen]; omega, by omega, (fun h => by cases h), fun _ => ⟨b, 0, rfl, fun j _ => by rw [cell_of_row w b (0 + j) _ T f (H.all _ h)]; simp⟩⟩
theorem run_convB {w : World} {b : Nat} {C : Array Value} {e : TypeId} (h : w.heap[b]? = some (.cells C e (0, 0))) (n c : Nat) :
    (convert 22 22 (.slice (some ⟨b, 0, none⟩) n c)).run Try.prog w = .ok (.slice (some ⟨b, 0, none⟩) n c) (w.freeze ⟨b, C.size, none⟩ 1) := by
  have hsh : w.shape? b = some (e, C.size) := by unfold World.shape?; rw [h]
  simp [convert, run_underlying Try.underlying22, run_underlying Try.underlying5, markStringish, hsh]
theorem Holds.marked {w : World} {L : List Ent} {b : Nat} {cs : List Value} {T : TypeId} (H : Holds w (blk b cs T :: L)) : Holds (w.freeze ⟨b, cs.length, none⟩ 1) (blkF b cs T (cs.length, cs.length + 1) :: L) := by
  have hb : w.heap[b]? = some (.cells cs.toArray T (0, 0)) := H.head
  have hlt := (Array.getElem?_eq_some_iff.1 hb).1
  refine H.set rfl ⟨rfl, rfl, rfl, by simp [World.freeze], fun c hc _ => ?_⟩ ?_ fun x hx => .inl hx
  · have hc' : ¬ b = c := fun h => hc h.symm
    simp [World.freeze, Array.getElem?_modify, hc']
  · show (w.freeze ⟨b, cs.length, none⟩ 1).heap[b]? = _
    simp [World.freeze, Array.getElem?_modify, hb]
theorem wpl_convB {ops : Array Oper} {rest : List Oper} {a : Act} {w : World} {Q : Exit → Act → World → Prop} {dst : Option Tmp} {x : Operand} {ty : TypeId} {pos : String} {after : Array Edge} {gd : Option (Nat × Bool)} {L L' : List Ent} (H : Holds w L)
    (hw : Region.wanted ⟨dst, .convert 22 22 x, ty, pos, after, gd⟩ (yielded ops a.tmps) = true) {b n c : Nat} (hx : a.eval x = .slice (some ⟨b, 0, none⟩) n c) {cs : List Value} {T : TypeId} (hm : Pull (blk b cs T) L L')
    (h : ∀ w', Holds w' (blkF b cs T (cs.length, cs.length + 1) :: L') → wpList Try.prog ops Q rest (a.put dst (.slice (some ⟨b, 0, none⟩) n c)) w') : wpList Try.prog ops Q (⟨dst, .convert 22 22 x, ty, pos, after, gd⟩ :: rest) a w := by
  have H2 := H.pull hm
  have hb : w.heap[b]? = some (.cells cs.toArray T (0, 0)) := H2.head
  refine wpl_run hw (w' := w.freeze ⟨b, cs.length, none⟩ 1) (v := .slice (some ⟨b, 0, none⟩) n c) ?_ (h _ H2.marked)
  unfold execOp
  simp only [hx, Sem.run_bind, run_convB hb, Sem.run_pure, Result.andThen_ok, List.size_toArray]
end Go.Proofs.Ytdnioigcgggdbaa
