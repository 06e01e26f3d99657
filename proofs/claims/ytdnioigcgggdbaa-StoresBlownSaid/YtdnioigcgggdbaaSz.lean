/-
  Which types are one cell, and which are rows of cells.
-/
import Derived.Test.YtdnioigcgggdbaaMem
import Derived.Test.YtdnioigcgggdbaaProg
namespace Go.Proofs.Ytdnioigcgggdbaa
set_option maxRecDepth 100000
def scTab : List Nat := [2, 3, 4, 5, 6, 9, 10, 11, 12, 15, 16, 17, 20, 21, 22, 23, 24, 25, 28, 29, 37, 38, 42, 51, 52, 68, 69, 72, 74, 103, 109, 113, 116, 117, 119, 122, 127, 128, 135, 136, 139, 140, 141, 149, 150, 152, 153, 154, 165, 166, 168, 171, 172]
def agTab : List (Nat × Nat) := [(7, 4), (8, 4), (13, 2), (14, 2), (18, 1), (19, 1), (26, 5), (27, 5), (39, 5), (40, 5), (43, 2), (58, 4), (59, 4), (63, 2), (70, 3), (71, 3), (85, 64), (86, 64), (87, 1), (88, 1), (89, 65), (90, 65), (105, 2), (106, 2), (114, 3), (115, 3), (125, 2), (126, 2), (133, 1), (134, 1), (144, 4), (145, 4), (146, 0), (147, 0), (148, 0), (155, 11), (156, 11), (163, 2), (164, 2), (169, 5), (170, 5), (173, 4), (174, 4)]
theorem sc_all : (scTab.all fun T => scalarB Try.prog T && ((Try.prog.info? T).map (·.size) == some 1)) = true := by kernel_rfl
theorem ag_all : (agTab.all fun x => aggB Try.prog x.1 x.2) = true := by kernel_rfl
theorem sc (T : Nat) (h : scTab.contains T = true) : Scalar Try.prog T := List.all_eq_true.1 sc_all T (by simpa using h)
theorem mem_of_lookup {k v : Nat} : ∀ {l : List (Nat × Nat)}, l.lookup k = some v → (k, v) ∈ l
  | [], h => by cases h
  | (a, b) :: l, h => by
    unfold List.lookup at h
    split at h
    · rename_i e; cases h; obtain rfl := beq_iff_eq.1 e; exact List.mem_cons_self
    · exact List.mem_cons_of_mem _ (mem_of_lookup h)
theorem ag (T n : Nat) (h : agTab.lookup T = some n) : AggOf Try.prog T n := List.all_eq_true.1 ag_all (T, n) (mem_of_lookup h)
theorem sz_sc (T : Nat) (h : scTab.contains T = true) : SizeIs Try.prog T 1 := .of_sc (sc T h)
theorem sz_ag (T n : Nat) (h : agTab.lookup T = some n) : SizeIs Try.prog T n := .of_ag (ag T n h)
theorem inf_3 : (Try.prog.info? 3).map (fun i => (i.zero, i.size, i.bytes)) = some (some (.int .i64 0), 1, 8) := by kernel_rfl
theorem inf_4 : (Try.prog.info? 4).map (fun i => (i.zero, i.size, i.bytes)) = some (some (.bool false), 1, 1) := by kernel_rfl
theorem inf_5 : (Try.prog.info? 5).map (fun i => (i.zero, i.size, i.bytes)) = some (some (.int .u8 0), 1, 1) := by kernel_rfl
theorem inf_22 : (Try.prog.info? 22).map (fun i => (i.zero, i.size, i.bytes)) = some (some (.slice none 0 0), 1, 24) := by kernel_rfl
theorem inf_23 : (Try.prog.info? 23).map (fun i => (i.zero, i.size, i.bytes)) = some (some (.pointer none), 1, 8) := by kernel_rfl
theorem inf_29 : (Try.prog.info? 29).map (fun i => (i.zero, i.size, i.bytes)) = some (some (.int .i64 0), 1, 8) := by kernel_rfl
theorem inf_86 : (Try.prog.info? 86).map (fun i => (i.zero, i.size, i.bytes)) = some (some (.agg #[.int .u8 0, .int .u8 0, .int .u8 0, .int .u8 0, .int .u8 0, .int .u8 0, .int .u8 0, .int .u8 0, .int .u8 0, .int .u8 0, .int .u8 0, .int .u8 0, .int .u8 0, .int .u8 0, .int .u8 0, .int .u8 0, .int .u8 0, .int .u8 0, .int .u8 0, .int .u8 0, .int .u8 0, .int .u8 0, .int .u8 0, .int .u8 0, .int .u8 0, .int .u8 0, .int .u8 0, .int .u8 0, .int .u8 0, .int .u8 0, .int .u8 0, .int .u8 0, .int .u8 0, .int .u8 0, .int .u8 0, .int .u8 0, .int .u8 0, .int .u8 0, .int .u8 0, .int .u8 0, .int .u8 0, .int .u8 0, .int .u8 0, .int .u8 0, .int .u8 0, .int .u8 0, .int .u8 0, .int .u8 0, .int .u8 0, .int .u8 0, .int .u8 0, .int .u8 0, .int .u8 0, .int .u8 0, .int .u8 0, .int .u8 0, .int .u8 0, .int .u8 0, .int .u8 0, .int .u8 0, .int .u8 0, .int .u8 0, .int .u8 0, .int .u8 0]), 64, 64) := by kernel_rfl
theorem inf_90 : (Try.prog.info? 90).map (fun i => (i.zero, i.size, i.bytes)) = some (some (.agg #[.int .i64 0, .int .u8 0, .int .u8 0, .int .u8 0, .int .u8 0, .int .u8 0, .int .u8 0, .int .u8 0, .int .u8 0, .int .u8 0, .int .u8 0, .int .u8 0, .int .u8 0, .int .u8 0, .int .u8 0, .int .u8 0, .int .u8 0, .int .u8 0, .int .u8 0, .int .u8 0, .int .u8 0, .int .u8 0, .int .u8 0, .int .u8 0, .int .u8 0, .int .u8 0, .int .u8 0, .int .u8 0, .int .u8 0, .int .u8 0, .int .u8 0, .int .u8 0, .int .u8 0, .int .u8 0, .int .u8 0, .int .u8 0, .int .u8 0, .int .u8 0, .int .u8 0, .int .u8 0, .int .u8 0, .int .u8 0, .int .u8 0, .int .u8 0, .int .u8 0, .int .u8 0, .int .u8 0, .int .u8 0, .int .u8 0, .int .u8 0, .int .u8 0, .int .u8 0, .int .u8 0, .int .u8 0, .int .u8 0, .int .u8 0, .int .u8 0, .int .u8 0, .int .u8 0, .int .u8 0, .int .u8 0, .int .u8 0, .int .u8 0, .int .u8 0, .int .u8 0]), 65, 72) := by kernel_rfl
theorem inf_174 : (Try.prog.info? 174).map (fun i => (i.zero, i.size, i.bytes)) = some (some (.agg #[.int .i32 0, .int .i32 0, .int .i32 0, .int .i32 0]), 4, 16) := by kernel_rfl
end Go.Proofs.Ytdnioigcgggdbaa
