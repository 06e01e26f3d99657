/-
  Contracts in the form that walks of literal values want: of nums.Put, nums.Get, SameBytes; a slice of bytes that is written out.
-/
import Derived.Test.YtadmpfieejddmaaDoorNums2
import Derived.Test.YtadmpfieejddmaaDoorSame
import Derived.Laws.MakeOwn
namespace Go.Proofs.YtadmpfieejddmaaDoor
open Go.RowKit

theorem rd_new (w : World) (cs : Array Value) (e : TypeId) (n : Nat) (hn : cs.size = n) (h : n ≤ 1000000) : Rd (w.alloc (.cells cs e)) 1 (some ⟨w.heap.size, 0, none⟩) n n cs.toList :=
  ⟨Nat.le_refl _, by simp only [maxLen]; omega, by simp [hn], (fun h => by cases h), fun _ => ⟨_, 0, rfl, fun j _ => by rw [cell_of_row _ w.heap.size (0 + j) cs e (0, 0) (heap_alloc_new w _)]; simp⟩⟩

theorem step_append {P : Program} {w : World} {ops : Array Oper} {o : Oper} {a : Act} {Q : Exit → Act → World → Prop} {K : Act → World → Prop} {E : Prop} (hgd : o.guard = none) (s x : Operand) (t : TypeId)
    (ho : o.op = .call { callee := .builtin .append, args := #[s, x], argTypes := #[t, t] })
    {e : TypeId} {z : Value} {size bytes : Nat} (ht : P.underlying t = some (.slice e)) (hinfo : (P.info? e).map (fun i => (i.zero, i.size, i.bytes)) = some (some z, size, bytes))
    (hzs : z.cells.size = size) (hsz : 0 < size)
    {A : Option Addr} {n cap : Nat} (hs : a.eval s = .slice A n cap) {A2 : Option Addr} {m c : Nat} (hx : a.eval x = .slice A2 m c)
    {base : Nat} {xs ys : List Value} (hown : w.ownsRow base e size (.slice A n cap) n xs) (hr : Rd w size A2 m c ys) (h1 : ∀ u ∈ ys, u.oneCell' = true)
    (h63 : n + m ≤ maxLen) (hbytes : (n + m) * bytes ≤ 140737488355328) (hbase : base ≤ w.heap.size)
    (h : ∀ A' n' cap' w', Hid (n' = n + m) → w'.ownsRow base e size (.slice A' n' cap') n' (xs ++ ys) → w.grownBy w' (Value.slice A n cap).ownBlock →
      ((Value.slice A' n' cap').ownBlock = (Value.slice A n cap).ownBlock ∨ (Value.slice A' n' cap').ownBlock = some w.heap.size) → K (a.put o.dst (.slice A' n' cap')) w') :
    if Region.wanted o (yielded ops a.tmps) = true then Oper.wp P o a w K Q else E := by
  obtain ⟨i, hi, hz, hsize, hby⟩ := info_parts hinfo
  obtain ⟨A', n', cap', w', hrun, h2, h3, h4, h5⟩ := run_append_rd (P := P) base t o.type e i z size bytes ht hi hz hsize hby hzs hsz hown hr h1 h63 hbytes hbase
  rw [if_pos (by simp [Region.wanted, hgd])]
  unfold Oper.wp execOp
  simp only [ho, resolve, invoke, builtin, Sem.run_bind, Sem.run_pure, Result.andThen_ok, List.map_toArray, List.map_cons, List.map_nil, hs, hx, hrun]
  exact h A' n' cap' w' h2 h3 h4 h5

theorem run_mk {P : Program} {t e : TypeId} {z : Value} {size bytes : Nat} (ht : P.underlying t = some (.slice e)) (hinfo : (P.info? e).map (fun i => (i.zero, i.size, i.bytes)) = some (some z, size, bytes))
    (n c : Nat) (hnc : n ≤ c) (hb : bytes * c ≤ 281474976710656) (h63 : c ≤ 9223372036854775807) (W : World) :
    (Instr.makeSlice t (.int .i64 (n : Int)) (.int .i64 (c : Int))).run P W = .ok (.slice (some ⟨W.heap.size, 0, none⟩) n c) (W.alloc (.cells (madeCells z.cells (c * size)) e)) := by
  obtain ⟨i, hi, hz, hsize, hby⟩ := info_parts hinfo
  have hb' : (i.bytes : Int) * (c : Int) ≤ 281474976710656 := by
    have h : ((i.bytes * c : Nat) : Int) ≤ 281474976710656 := by rw [hby]; omega
    rwa [Int.natCast_mul] at h
  have hr := run_make (P := P) W t e i z ht hi hz .i64 .i64 n c (by omega) (by omega) hb' (by omega)
  simp only [Int.toNat_natCast, hsize] at hr
  exact hr

/-- an empty slice of the call's own. -/
theorem own_made (w : World) (Z : Array Value) (e : TypeId) (cap size base : Nat) (hZ : Z.size = cap * size) (hc : cap ≤ maxLen) (hb : base ≤ w.heap.size) : (w.alloc (.cells Z e)).ownsRow base e size (.slice (some ⟨w.heap.size, 0, none⟩) 0 cap) 0 [] :=
  ⟨by simp, .inr ⟨w.heap.size, cap, Z, rfl, hb, heap_alloc_new w _, Nat.zero_le _, hc, hZ, by simp⟩⟩
theorem madeCells_size (s N : Nat) (z : Value) : (madeCells (List.replicate s z).toArray N).size = N := by simp [madeCells]
theorem asz (w : World) (o : Obj) : (w.alloc o).heap.size = w.heap.size + 1 := Array.size_push _
theorem rd_lit (w : World) (l : List UInt8) (cs : Array Value) (e : TypeId) (n : Nat) (h : cs = (bvs l).toArray) (hn : l.length = n) (hl : n ≤ 1000000) : Rd (w.alloc (.cells cs e)) 1 (some ⟨w.heap.size, 0, none⟩) n n (bvs l) := by
  subst h
  have := rd_new w (bvs l).toArray e n (by simp [bvs_length, hn]) hl
  simpa using this
theorem get_lit (A : Option Addr) (n cap : Nat) (l : List UInt8) (K : Int) (v e0 : Int) (w : World) (hr : Rd w 1 A n cap (bvs l)) (hv : ((getR l K).1 : Int) = v) (he : (getR l K).2 = e0) :
    Calls Tryd.prog 5 #[.slice A n cap, .int .i64 K] w fun e w' => e = .returned (.tuple #[.int .u64 v, .int .i64 e0]) ∧ Ext w w' := by
  subst hv he; exact (get_any A n cap l K w hr).mono fun e w' h => ⟨h.1, by rw [← h.2]; exact Ext.refl _⟩
theorem same_lit (A1 : Option Addr) (n1 c1 : Nat) (l : List UInt8) (A2 : Option Addr) (n2 c2 : Nat) (w : World) (h1 : Rd w 1 A1 n1 c1 (bvs l)) (h2 : Rd w 1 A2 n2 c2 (bvs l)) :
    Calls Tryd.prog 12 #[.slice A1 n1 c1, .slice A2 n2 c2] w fun e w' => e = .returned (.bool true) ∧ Ext w w' := by
  refine (same_any A1 n1 c1 l A2 n2 c2 l w h1 h2).mono ?_
  rintro e w' ⟨rfl, d, rfl⟩
  exact ⟨by simp, (Ext.refl _).drewN _⟩
end Go.Proofs.YtadmpfieejddmaaDoor
