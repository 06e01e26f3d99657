/-
  Which types are one cell, and which are rows of cells.
-/
import Derived.Test.YtkammcmlifmgnaaMem
import Derived.Test.YtkammcmlifmgnaaProg
namespace Go.Proofs.Ytkammcmlifmgnaa
set_option maxRecDepth 100000
def scTab : List Nat := [2, 3, 4, 5, 6, 9, 10, 11, 12, 15, 16, 17, 20, 21, 22, 23, 24, 27, 37, 45, 48, 49, 51, 55, 59, 62, 65, 67, 72, 73, 82, 83, 86, 87, 88, 98, 99, 101, 102, 103, 114, 115, 119, 120]
def agTab : List (Nat × Nat) := [(7, 4), (8, 4), (13, 2), (14, 2), (18, 1), (19, 1), (25, 2), (26, 2), (40, 2), (46, 3), (47, 3), (57, 2), (58, 2), (70, 2), (71, 2), (80, 1), (81, 1), (92, 4), (93, 4), (94, 0), (95, 0), (96, 0), (104, 11), (105, 11), (112, 2), (113, 2), (117, 5), (118, 5), (121, 4), (122, 4)]
theorem sc_all : (scTab.all fun T => scalarB Try.prog T && ((Try.prog.info? T).map (·.size) == some 1)) = true := by kernel_rfl
theorem ag_all : (agTab.all fun x => aggB Try.prog x.1 x.2) = true := by kernel_rfl
theorem sc (T : Nat) (h : scTab.contains T = true) : Scalar Try.prog T := List.all_eq_true.1 sc_all T (by simpa using h)
theorem mem_of_lookup {k v : Nat} : ∀ {l : List (Nat × Nat)}, l.lookup k = some v → (k, v) ∈ l
  | [], h => by cases h
  | (a, b) :: l, h => by
    unfold List.lookup at h
    split at h
    · rename_i e; cases h; obtain rfl := beq_iff_eq.1 e; exact List.mem_cons_self
    · exact List.mem_cons_of_mem _ (mem_of_lookup h)
theorem ag (T n : Nat) (h : agTab.lookup T = some n) : AggOf Try.prog T n := List.all_eq_true.1 ag_all (T, n) (mem_of_lookup h)
theorem sz_sc (T : Nat) (h : scTab.contains T = true) : SizeIs Try.prog T 1 := .of_sc (sc T h)
theorem sz_ag (T n : Nat) (h : agTab.lookup T = some n) : SizeIs Try.prog T n := .of_ag (ag T n h)
theorem inf_5 : (Try.prog.info? 5).map (fun i => (i.zero, i.size, i.bytes)) = some (some (.int .u8 0), 1, 1) := by kernel_rfl
theorem inf_23 : (Try.prog.info? 23).map (fun i => (i.zero, i.size, i.bytes)) = some (some (.slice none 0 0), 1, 24) := by kernel_rfl
theorem inf_27 : (Try.prog.info? 27).map (fun i => (i.zero, i.size, i.bytes)) = some (some (.int .i64 0), 1, 8) := by kernel_rfl
theorem inf_122 : (Try.prog.info? 122).map (fun i => (i.zero, i.size, i.bytes)) = some (some (.agg #[.int .i32 0, .int .i32 0, .int .i32 0, .int .i32 0]), 4, 16) := by kernel_rfl
end Go.Proofs.Ytkammcmlifmgnaa
