/-
  A store of one cell into a row of the call's own, in a region that draws its order; xor of bytes.
-/
import Derived.Test.YtdnioigcgggdbaaDraw
import Derived.Test.YtdnioigcgggdbaaRow
import Derived.Test.YtdnioigcgggdbaaSz
import Derived.Laws.BitsAllLaws
set_option linter.unusedVariables false
set_option linter.unusedSimpArgs false
namespace Go.Proofs.Ytdnioigcgggdbaa
open Go.RowKit

theorem xor_byte (x z : UInt8) : bits .xor .u8 ((x.toNat : Nat) : Int) ((z.toNat : Nat) : Int) = (((x ^^^ z).toNat : Nat) : Int) := by
  rw [u8_xor_nat _ _ x.toNat_lt z.toNat_lt, UInt8.toNat_xor]
theorem opw_storeC {P : Program} {a : Act} {w : World} {K : Act → World → Prop} {Q : Exit → Act → World → Prop} {dst : Option Tmp} {T : TypeId} {x y : Operand} {ty : TypeId} {pos : String} {after : Array Edge} {gd : Option (Nat × Bool)} {L L' : List Ent} (H : Holds w L)
    {b k : Nat} (hx : a.eval x = .pointer (some ⟨b, k, none⟩)) {v : Value} (hy : a.eval y = v) (h1 : v.oneCell' = true)
    {e : TypeId} {size n n' cap : Nat} {xs : List Value} (hm : Upd (ownE e size (.slice (some ⟨b, 0, none⟩) n cap) n' xs) (ownE e size (.slice (some ⟨b, 0, none⟩) n cap) n' (setL xs k [v])) L L') (hs : SizeIs P T 1) (hk : k + 1 ≤ xs.length)
    (h : ∀ w', Holds w' L' → K (a.put dst undef) w') : Oper.wp P ⟨dst, .store T x y, ty, pos, after, gd⟩ a w K Q := by
  have hw := H.writeO hm hk
  refine opw_skip (w' := w.setCells b k [v]) ?_ (h _ hw.2)
  have hc : (a.eval y).cells = [v].toArray := by rw [hy]; cases v <;> first | rfl | simp [Value.oneCell'] at h1
  have hr := run_storeVar_mid (P := P) w b k T [v].toArray (by simpa using hw.1) (by unfold SizeIs at hs; simpa using hs) (by simp [h1])
  have he : ∀ A : Addr, storeVar T A (a.eval y) = storeVar T A (.agg [v].toArray) := fun A => by unfold storeVar; rw [hc]; rfl
  unfold execOp
  simp only [hx, Instr.storeAt, Instr.sureAddr, Sem.run_bind, Sem.run_pure, Result.andThen_ok, he, hr]
end Go.Proofs.Ytdnioigcgggdbaa
