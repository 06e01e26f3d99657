/-
  What the contracts of package nums share.
-/
import Derived.Test.YtadmpfieejddmaaDoorProg
import Derived.Test.YtadmpfieejddmaaDoorLib
import Derived.Test.YtadmpfieejddmaaDoorNum
import Derived.RangeFuncBox
import Derived.RangeFuncNested
import Derived.RangeFuncLeaves
import Derived.Shelf.Abstract
import Derived.OwnWalkIn
import Derived.TacticsInMore
import Derived.LoopNIn
import Derived.LoopIn
import Derived.Lib.MinMax
namespace Go.Proofs.YtadmpfieejddmaaDoor
open Go.RowKit Go.Shelf
attribute [local go_sem] Oper.semAt_some

/-- a box holds what it held. -/
def SameBox (b : Nat) (W W' : World) : Prop := W'.cell? ⟨b, 0, none⟩ = W.cell? ⟨b, 0, none⟩
theorem digit_val (x k j : Nat) (h : j < k) : bv (UInt8.ofNat (x / 256 ^ (k - 1 - j))) = .int .u8 ((x : Int) / 2 ^ (8 * k - 8 - 8 * j) % 256) := by
  have e : (256 : Nat) ^ (k - 1 - j) = 2 ^ (8 * k - 8 - 8 * j) := by
    rw [show (256 : Nat) = 2 ^ 8 from rfl, ← Nat.pow_mul]; congr 1; omega
  unfold bv
  rw [e, UInt8.toNat_ofNat']
  simp
theorem take_be (x k j : Nat) (h : j < k) : (be k x).take j ++ [UInt8.ofNat (x / 256 ^ (k - 1 - j))] = (be k x).take (j + 1) := by
  rw [List.take_add_one, be_getElem? h]; rfl

theorem info_u8 : (Tryd.prog.info? 5).map (fun i => (i.zero, i.size, i.bytes)) = some (some (.int .u8 0), 1, 1) := by kernel_rfl
end Go.Proofs.YtadmpfieejddmaaDoor
