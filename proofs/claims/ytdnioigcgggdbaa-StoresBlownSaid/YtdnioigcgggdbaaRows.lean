/-
  No cell of these rows narrows 'for every input' (looked for: loops, veiled, ifaces, maps, wideKeys, modest, calm, conditions, laid).
  DERIVED. THE GIVEN ROWS OF THIS SEAT. 7 by the template 'for every input the law returns true; each argument reads behind the call as it read before'; 0 by the template 'total and deterministic' (their statements: YtdnioigcgggdbaaTotals.lean).
  GIVEN WITH THE SEED: the statements are not yours to turn. If you find one false, say at which input.
  Laid BY PROGRAM, IN A SANDBOX (cutbox-rows.mjs): the forced cells as the released guide's own fill.sh prints them over the translation 211b7708767098b6… (all of the seat's roots in one cut). By AI agents, Wed Nov 11 2026. No macro, syntax, notation, axiom, sorry.
-/
import Derived.Test.YtdnioigcgggdbaaChecked
import GoSem.Claim
import GoSem.ClaimJoined
import GoSem.ClaimMapViews
import Derived.JoinedTies
import Derived.KernelRfl
namespace Go.Proofs.Ytdnioigcgggdbaa
/- THE CELL 'sum', in the pinned program and in every row, IS THE sha256 OF THE DUMP (.gsa) THAT YtdnioigcgggdbaaProg.lean LOADS. Nothing in Lean hashes anything: it is a label: what it is worth is what the hold of that sum in a sandbox is worth. -/
noncomputable def Try.pinned : Pinned := { name := "ytdnioigcgggdbaa", sum := "211b7708767098b67753c156eae038da019539bf8fe3813b1ff4960897fccc2f", checked := Try.checked }
namespace Rows
def none {H : Type} : Left H := { results := [], args := [] }

/-- 'almonerlaw07.StoresNone': WHATEVER THE INPUT: true; the input reads as it did. -/
def storesNoneSpec : ChangeSpec := { name := "storesNone", fn := fun _ => fun
  | [d1, d2] => { results := [.lit (.bool true)], args := [d1, d2] }
  | _ => none }
def storesNoneRow : OpenClaim := { program := "ytdnioigcgggdbaa", sum := "211b7708767098b67753c156eae038da019539bf8fe3813b1ff4960897fccc2f", func := "almoner/almonerlaw07.StoresNone", spec := "storesNone", inPlace := ["internal/reflectlite.TypeOf"], unfollowed := true, recurses := true, apart := false }
def StoresNoneSaid : Prop := storesNoneRow.holds Try.pinned (OpenSpec.ofChange storesNoneSpec)

/-- ITS FALSE NEIGHBOUR: 'it returns false'. Refute it at one input. -/
def storesNoneWrong : ChangeSpec := { name := "storesNone", fn := fun _ => fun
  | [d1, d2] => { results := [.lit (.bool false)], args := [d1, d2] }
  | _ => none }
def StoresNoneWrongFalsely : Prop := storesNoneRow.holds Try.pinned (OpenSpec.ofChange storesNoneWrong)

/-- 'almonerlaw07.StoresKept': WHATEVER THE INPUT: true; the input reads as it did. -/
def storesKeptSpec : ChangeSpec := { name := "storesKept", fn := fun _ => fun
  | [d1, d2, d3] => { results := [.lit (.bool true)], args := [d1, d2, d3] }
  | _ => none }
def storesKeptRow : OpenClaim := { program := "ytdnioigcgggdbaa", sum := "211b7708767098b67753c156eae038da019539bf8fe3813b1ff4960897fccc2f", func := "almoner/almonerlaw07.StoresKept", spec := "storesKept", inPlace := ["internal/reflectlite.TypeOf"], unfollowed := true, recurses := true, apart := false }
def StoresKeptSaid : Prop := storesKeptRow.holds Try.pinned (OpenSpec.ofChange storesKeptSpec)

/-- ITS FALSE NEIGHBOUR: 'it returns false'. Refute it at one input. -/
def storesKeptWrong : ChangeSpec := { name := "storesKept", fn := fun _ => fun
  | [d1, d2, d3] => { results := [.lit (.bool false)], args := [d1, d2, d3] }
  | _ => none }
def StoresKeptWrongFalsely : Prop := storesKeptRow.holds Try.pinned (OpenSpec.ofChange storesKeptWrong)

/-- 'almonerlaw07.StoresApart': WHATEVER THE INPUT: true; the input reads as it did. -/
def storesApartSpec : ChangeSpec := { name := "storesApart", fn := fun _ => fun
  | [d1, d2] => { results := [.lit (.bool true)], args := [d1, d2] }
  | _ => none }
def storesApartRow : OpenClaim := { program := "ytdnioigcgggdbaa", sum := "211b7708767098b67753c156eae038da019539bf8fe3813b1ff4960897fccc2f", func := "almoner/almonerlaw07.StoresApart", spec := "storesApart", inPlace := ["internal/reflectlite.TypeOf"], unfollowed := true, recurses := true, apart := false }
def StoresApartSaid : Prop := storesApartRow.holds Try.pinned (OpenSpec.ofChange storesApartSpec)

/-- ITS FALSE NEIGHBOUR: 'it returns false'. Refute it at one input. -/
def storesApartWrong : ChangeSpec := { name := "storesApart", fn := fun _ => fun
  | [d1, d2] => { results := [.lit (.bool false)], args := [d1, d2] }
  | _ => none }
def StoresApartWrongFalsely : Prop := storesApartRow.holds Try.pinned (OpenSpec.ofChange storesApartWrong)

/-- 'almonerlaw07.StoresWaits': WHATEVER THE INPUT: true; the input reads as it did. -/
def storesWaitsSpec : ChangeSpec := { name := "storesWaits", fn := fun _ => fun
  | [d1, d2] => { results := [.lit (.bool true)], args := [d1, d2] }
  | _ => none }
def storesWaitsRow : OpenClaim := { program := "ytdnioigcgggdbaa", sum := "211b7708767098b67753c156eae038da019539bf8fe3813b1ff4960897fccc2f", func := "almoner/almonerlaw07.StoresWaits", spec := "storesWaits", inPlace := ["internal/reflectlite.TypeOf"], unfollowed := true, recurses := true, apart := false }
def StoresWaitsSaid : Prop := storesWaitsRow.holds Try.pinned (OpenSpec.ofChange storesWaitsSpec)

/-- ITS FALSE NEIGHBOUR: 'it returns false'. Refute it at one input. -/
def storesWaitsWrong : ChangeSpec := { name := "storesWaits", fn := fun _ => fun
  | [d1, d2] => { results := [.lit (.bool false)], args := [d1, d2] }
  | _ => none }
def StoresWaitsWrongFalsely : Prop := storesWaitsRow.holds Try.pinned (OpenSpec.ofChange storesWaitsWrong)

/-- 'almonerlaw07.StoresAnew': WHATEVER THE INPUT: true; the input reads as it did. -/
def storesAnewSpec : ChangeSpec := { name := "storesAnew", fn := fun _ => fun
  | [d1, d2, d3] => { results := [.lit (.bool true)], args := [d1, d2, d3] }
  | _ => none }
def storesAnewRow : OpenClaim := { program := "ytdnioigcgggdbaa", sum := "211b7708767098b67753c156eae038da019539bf8fe3813b1ff4960897fccc2f", func := "almoner/almonerlaw07.StoresAnew", spec := "storesAnew", inPlace := ["internal/reflectlite.TypeOf"], unfollowed := true, recurses := true, apart := false }
def StoresAnewSaid : Prop := storesAnewRow.holds Try.pinned (OpenSpec.ofChange storesAnewSpec)

/-- ITS FALSE NEIGHBOUR: 'it returns false'. Refute it at one input. -/
def storesAnewWrong : ChangeSpec := { name := "storesAnew", fn := fun _ => fun
  | [d1, d2, d3] => { results := [.lit (.bool false)], args := [d1, d2, d3] }
  | _ => none }
def StoresAnewWrongFalsely : Prop := storesAnewRow.holds Try.pinned (OpenSpec.ofChange storesAnewWrong)

/-- 'almonerlaw07.StoresBlown': WHATEVER THE INPUT: true; the input reads as it did. -/
def storesBlownSpec : ChangeSpec := { name := "storesBlown", fn := fun _ => fun
  | [d1, d2] => { results := [.lit (.bool true)], args := [d1, d2] }
  | _ => none }
def storesBlownRow : OpenClaim := { program := "ytdnioigcgggdbaa", sum := "211b7708767098b67753c156eae038da019539bf8fe3813b1ff4960897fccc2f", func := "almoner/almonerlaw07.StoresBlown", spec := "storesBlown", inPlace := ["internal/reflectlite.TypeOf"], unfollowed := true, recurses := true, apart := false }
def StoresBlownSaid : Prop := storesBlownRow.holds Try.pinned (OpenSpec.ofChange storesBlownSpec)

/-- ITS FALSE NEIGHBOUR: 'it returns false'. Refute it at one input. -/
def storesBlownWrong : ChangeSpec := { name := "storesBlown", fn := fun _ => fun
  | [d1, d2] => { results := [.lit (.bool false)], args := [d1, d2] }
  | _ => none }
def StoresBlownWrongFalsely : Prop := storesBlownRow.holds Try.pinned (OpenSpec.ofChange storesBlownWrong)

/-- 'almonerlaw07.StoresRead': WHATEVER THE INPUT: true; the input reads as it did. -/
def storesReadSpec : ChangeSpec := { name := "storesRead", fn := fun _ => fun
  | [d1, d2, d3] => { results := [.lit (.bool true)], args := [d1, d2, d3] }
  | _ => none }
def storesReadRow : OpenClaim := { program := "ytdnioigcgggdbaa", sum := "211b7708767098b67753c156eae038da019539bf8fe3813b1ff4960897fccc2f", func := "almoner/almonerlaw07.StoresRead", spec := "storesRead", inPlace := ["internal/reflectlite.TypeOf"], unfollowed := true, recurses := true, apart := false }
def StoresReadSaid : Prop := storesReadRow.holds Try.pinned (OpenSpec.ofChange storesReadSpec)

/-- ITS FALSE NEIGHBOUR: 'it returns false'. Refute it at one input. -/
def storesReadWrong : ChangeSpec := { name := "storesRead", fn := fun _ => fun
  | [d1, d2, d3] => { results := [.lit (.bool false)], args := [d1, d2, d3] }
  | _ => none }
def StoresReadWrongFalsely : Prop := storesReadRow.holds Try.pinned (OpenSpec.ofChange storesReadWrong)

/- THE SECOND FORM. 'bulk': how many values and letters a reading holds, each counted each time it is reached (what is shared counts as often as it is met; a slice's spare places count too). A statement '..UptoSaid' is the law's where the arguments, and the package variables that the reading takes, are together of bulk at most 1048576: NARROWER than '..Said'. Prove '..Said' where nothing that the law and all that it calls make is longer than what came in: it says more and counts as full. Else prove '..UptoSaid'. A law counts once. -/
mutual
def uptoBulk {H : Type} : DataW H → Nat
  | .lit (.string bytes) => bytes.length + 1
  | .lit _ => 1
  | .nil => 1
  | .ptr d => uptoBulk d + 1
  | .slice elems spare => uptoBulkAll elems + uptoBulkAll spare + 1
  | .agg parts => uptoBulkAll parts + 1
  | .iface _ d => uptoBulk d + 1
  | .map entries => uptoBulkEntries entries + 1
  | .held _ => 1
def uptoBulkAll {H : Type} : List (DataW H) → Nat
  | [] => 0
  | d :: r => uptoBulk d + uptoBulkAll r
def uptoBulkEntries {H : Type} : List (Lit × DataW H) → Nat
  | [] => 0
  | x :: r => uptoBulkEntry x + uptoBulkEntries r
def uptoBulkEntry {H : Type} : Lit × DataW H → Nat
  | (.string bytes, d) => bytes.length + uptoBulk d + 1
  | (_, d) => uptoBulk d + 1
 end
def uptoSmall : (H : Type) → List (DataW H) → Bool := fun _ ds => decide (uptoBulkAll ds ≤ 1048576)
def OpenSpec.upto (s : _root_.Go.ChangeSpec) : _root_.Go.OpenSpec := { _root_.Go.OpenSpec.ofChange s with cond := some uptoSmall }

/-- 'almonerlaw07.StoresNone', WHERE WHAT IT READS IS OF BULK AT MOST 1048576: true; the input reads as it did. -/
def storesNoneUptoRow : OpenClaim := { program := "ytdnioigcgggdbaa", sum := "211b7708767098b67753c156eae038da019539bf8fe3813b1ff4960897fccc2f", func := "almoner/almonerlaw07.StoresNone", spec := "storesNone", inPlace := ["internal/reflectlite.TypeOf"], unfollowed := true, recurses := true, apart := false, narrowed := true }
def StoresNoneUptoSaid : Prop := storesNoneUptoRow.holds Try.pinned (OpenSpec.upto storesNoneSpec)

/-- 'almonerlaw07.StoresKept', WHERE WHAT IT READS IS OF BULK AT MOST 1048576: true; the input reads as it did. -/
def storesKeptUptoRow : OpenClaim := { program := "ytdnioigcgggdbaa", sum := "211b7708767098b67753c156eae038da019539bf8fe3813b1ff4960897fccc2f", func := "almoner/almonerlaw07.StoresKept", spec := "storesKept", inPlace := ["internal/reflectlite.TypeOf"], unfollowed := true, recurses := true, apart := false, narrowed := true }
def StoresKeptUptoSaid : Prop := storesKeptUptoRow.holds Try.pinned (OpenSpec.upto storesKeptSpec)

/-- 'almonerlaw07.StoresApart', WHERE WHAT IT READS IS OF BULK AT MOST 1048576: true; the input reads as it did. -/
def storesApartUptoRow : OpenClaim := { program := "ytdnioigcgggdbaa", sum := "211b7708767098b67753c156eae038da019539bf8fe3813b1ff4960897fccc2f", func := "almoner/almonerlaw07.StoresApart", spec := "storesApart", inPlace := ["internal/reflectlite.TypeOf"], unfollowed := true, recurses := true, apart := false, narrowed := true }
def StoresApartUptoSaid : Prop := storesApartUptoRow.holds Try.pinned (OpenSpec.upto storesApartSpec)

/-- 'almonerlaw07.StoresWaits', WHERE WHAT IT READS IS OF BULK AT MOST 1048576: true; the input reads as it did. -/
def storesWaitsUptoRow : OpenClaim := { program := "ytdnioigcgggdbaa", sum := "211b7708767098b67753c156eae038da019539bf8fe3813b1ff4960897fccc2f", func := "almoner/almonerlaw07.StoresWaits", spec := "storesWaits", inPlace := ["internal/reflectlite.TypeOf"], unfollowed := true, recurses := true, apart := false, narrowed := true }
def StoresWaitsUptoSaid : Prop := storesWaitsUptoRow.holds Try.pinned (OpenSpec.upto storesWaitsSpec)

/-- 'almonerlaw07.StoresAnew', WHERE WHAT IT READS IS OF BULK AT MOST 1048576: true; the input reads as it did. -/
def storesAnewUptoRow : OpenClaim := { program := "ytdnioigcgggdbaa", sum := "211b7708767098b67753c156eae038da019539bf8fe3813b1ff4960897fccc2f", func := "almoner/almonerlaw07.StoresAnew", spec := "storesAnew", inPlace := ["internal/reflectlite.TypeOf"], unfollowed := true, recurses := true, apart := false, narrowed := true }
def StoresAnewUptoSaid : Prop := storesAnewUptoRow.holds Try.pinned (OpenSpec.upto storesAnewSpec)

/-- 'almonerlaw07.StoresBlown', WHERE WHAT IT READS IS OF BULK AT MOST 1048576: true; the input reads as it did. -/
def storesBlownUptoRow : OpenClaim := { program := "ytdnioigcgggdbaa", sum := "211b7708767098b67753c156eae038da019539bf8fe3813b1ff4960897fccc2f", func := "almoner/almonerlaw07.StoresBlown", spec := "storesBlown", inPlace := ["internal/reflectlite.TypeOf"], unfollowed := true, recurses := true, apart := false, narrowed := true }
def StoresBlownUptoSaid : Prop := storesBlownUptoRow.holds Try.pinned (OpenSpec.upto storesBlownSpec)

/-- 'almonerlaw07.StoresRead', WHERE WHAT IT READS IS OF BULK AT MOST 1048576: true; the input reads as it did. -/
def storesReadUptoRow : OpenClaim := { program := "ytdnioigcgggdbaa", sum := "211b7708767098b67753c156eae038da019539bf8fe3813b1ff4960897fccc2f", func := "almoner/almonerlaw07.StoresRead", spec := "storesRead", inPlace := ["internal/reflectlite.TypeOf"], unfollowed := true, recurses := true, apart := false, narrowed := true }
def StoresReadUptoSaid : Prop := storesReadUptoRow.holds Try.pinned (OpenSpec.upto storesReadSpec)

end Rows
end Go.Proofs.Ytdnioigcgggdbaa
