/-
  Contracts of Clone, Clip, Grow, Concat at bytes (as XNums4, without the package nums' rows).
-/
import Derived.Test.YtdnioigcgggdbaaNumM
import Derived.Lib.AppendZerosOnto
namespace Go.Proofs.Ytdnioigcgggdbaa
open Go.RowKit
set_option maxRecDepth 100000

theorem info_u8s : (Try.prog.info? 5).map (·.size) = some 1 := by kernel_rfl
theorem addr_add0 (a : Addr) : a.add 0 = a := by unfold Addr.add; simp
theorem map_add0 (A : Option Addr) : A.map (·.add 0) = A := by cases A <;> simp [addr_add0]

/-- s[:cap(s)], s[:len(s):len(s)]: what the operations give. -/
theorem run_full {P : Program} {t e : TypeId} (ht : P.underlying t = some (.slice e)) (hs : (P.info? e).map (·.size) = some 1) (A : Option Addr) (n cap : Nat) (W : World) :
    (Instr.slice t (.slice A n cap) none (some (.int .i64 (cap : Int))) none).run P W = .ok (.slice A cap cap) W := by
  obtain ⟨i, hi', hz⟩ := Option.map_eq_some_iff.1 hs
  simp [Instr.slice, run_underlying ht, Instr.sliceBounds, Instr.sliceBound, asIntOf, sizeOf, typeInfo, hi']
  cases A <;> simp [addr_add0]
theorem run_head {P : Program} {t e : TypeId} {size : Nat} (ht : P.underlying t = some (.slice e)) (hs : (P.info? e).map (·.size) = some size) (A : Option Addr) (n cap k : Nat) (hk : k ≤ cap) (W : World) :
    (Instr.slice t (.slice A n cap) none (some (.int .i64 (k : Int))) none).run P W = .ok (.slice A k cap) W := by
  obtain ⟨i, hi', hz⟩ := Option.map_eq_some_iff.1 hs
  simp [Instr.slice, run_underlying ht, Instr.sliceBounds, Instr.sliceBound, asIntOf, sizeOf, typeInfo, hi', hk]
  cases A <;> simp [addr_add0]
theorem run_clip {P : Program} {t e : TypeId} {size : Nat} (ht : P.underlying t = some (.slice e)) (hs : (P.info? e).map (·.size) = some size) (A : Option Addr) (n cap : Nat) (hk : n ≤ cap) (W : World) :
    (Instr.slice t (.slice A n cap) none (some (.int .i64 (n : Int))) (some (.int .i64 (n : Int)))).run P W = .ok (.slice A n n) W := by
  obtain ⟨i, hi', hz⟩ := Option.map_eq_some_iff.1 hs
  simp [Instr.slice, run_underlying ht, Instr.sliceBounds, Instr.sliceBound, asIntOf, sizeOf, typeInfo, hi', hk]
  cases A <;> simp [addr_add0]

set_option maxHeartbeats 400000 in
/-- slices.Clone at bytes: new memory, the same bytes. -/
theorem clone_any (A : Option Addr) (n cap : Nat) (l : List UInt8) (hn : n ≤ 70368744177664) (w : World) (hr : Rd w 1 A n cap (bvs l)) :
    Calls Try.prog 29 #[.slice A n cap] w fun e w' => ∃ A' n' cap', e = .returned (.slice A' n' cap') ∧
      w'.ownsRow w.heap.size 5 1 (.slice A' n' cap') n' (bvs l) ∧ Ext w w' := by
  have hl := hr.blen
  have hq := fun W a n c => Lib.run_eql_slice_nil (P := Try.prog) W 22 5 a n c 0 0 Try.underlying22
  cases A with
  | none =>
    obtain rfl : cap = 0 := hr.nil rfl
    obtain rfl : n = 0 := by have := hr.le; omega
    obtain rfl : l = [] := List.eq_nil_of_length_eq_zero hl
    go_enter Try.func29, Try.ntmps29
    go_wp2_with (fail)
    go_ret
    exact ⟨none, 0, 0, rfl, World.ownsRow_nil _ _ _ _, Ext.refl _⟩
  | some p =>
    have Hl := Lib.hid hl
    clear hl
    have hmade := World.ownsRow_made (base := w.heap.size) (size := 1) (e := 5) w #[] 0 (Nat.le_refl _) (by simp [maxLen]) rfl
    go_enter Try.func29, Try.ntmps29
    go_wp2_with (at_builtin; refine wpl_append rfl _ _ _ rfl Try.underlying22 info_u8 rfl (by decide) rfl rfl hmade (hr.alloc _) (bvs_oneCell _) (by simp only [maxLen]; omega) (by omega) (by simp) ?_; intro A2 n2 c2 w2 hn2 hown2 hg2 _)
    go_ret
    refine ⟨_, _, _, rfl, by simpa using hown2, ((Ext.refl _).alloc _).grown hg2 (by simp [Value.ownBlock])⟩

set_option maxHeartbeats 400000 in
/-- slices.Clip at bytes. -/
theorem clip_any (A : Option Addr) (n cap : Nat) (hn : n ≤ cap) (w : World) :
    Calls Try.prog 28 #[.slice A n cap] w fun e w' => e = .returned (.slice A n n) ∧ w = w' := by
  have hc := fun W => run_clip Try.underlying22 info_u8s A n cap hn W
  go_enter Try.func28, Try.ntmps28
  go_wp2
  go_ret
  exact ⟨rfl, rfl⟩

set_option maxHeartbeats 400000 in
/-- slices.Grow at bytes, on a slice of the call's own: the same bytes. -/
theorem grow_any (A : Option Addr) (n cap : Nat) (l : List UInt8) (k base : Nat) (hk : k ≤ 70368744177664) (hn : n ≤ 70368744177664) (w : World) (hb : base ≤ w.heap.size) (ho : w.ownsRow base 5 1 (.slice A n cap) n (bvs l)) :
    Calls Try.prog 63 #[.slice A n cap, .int .i64 k] w fun e w' => ∃ A' cap', e = .returned (.slice A' n cap') ∧
      w'.ownsRow base 5 1 (.slice A' n cap') n (bvs l) ∧ Ext w w' := by
  have hr := Rd.of_own ho
  have hle := hr.le
  have htop := hr.top
  unfold maxLen at htop
  by_cases h : n + k ≤ cap
  · have h2 : ¬ (0 : Int) < (k : Int) - ((cap : Int) - (n : Int)) := by omega
    go_enter Try.func63, Try.ntmps63
    go_wp2
    go_ret
    exact ⟨_, _, rfl, ho, Ext.refl _⟩
  · have h2 : (0 : Int) < (k : Int) - ((cap : Int) - (n : Int)) := by omega
    obtain ⟨d, hd⟩ : ∃ d : Nat, n + k = cap + d := ⟨n + k - cap, by omega⟩
    have hdi : (k : Int) - ((cap : Int) - (n : Int)) = (d : Int) := by omega
    have hf := fun W => run_full Try.underlying22 info_u8s A n cap W
    obtain ⟨i0, hi, hz0, hz1, hz2⟩ := info_parts info_u8
    have olds : ∃ ol : List Value, ol.length = cap ∧ ol.take n = bvs l ∧ (Builtin.firstCells i0.size cap (.slice A cap cap)).run Try.prog w.drew = .ok ol.toArray w.drew := by
      rcases ho.2 with ⟨hv, hn0⟩ | ⟨g, c, cur, hv, hbg, hg, hnc, hcm, hcs, htake⟩
      · injection hv with e1 e2 e3
        subst e1; subst e3
        refine ⟨[], rfl, ?_, by simp [Builtin.firstCells]⟩
        have := ho.1
        rw [hn0] at this
        have e0 : bvs l = [] := List.eq_nil_of_length_eq_zero (by simpa using this)
        rw [e0]; simp
      · injection hv with e1 e2 e3
        subst e1; subst e3
        refine ⟨cur.toList, by simpa using hcs, by simpa using htake, ?_⟩
        rw [hz1]
        refine run_firstCells_some (P := Try.prog) w.drew 1 cap ⟨g, 0, none⟩ cap cap cur.toList (by simpa using hcs) ?_
        intro j u hu
        rw [add_mk, cell_of_row w.drew g (0 + j) cur 5 (0, 0) hg]
        simpa using hu
    obtain ⟨ol, hol, htk, hfc⟩ := olds
    have hap := Lib.run_append_grow_zeros (P := Try.prog) w 22 3 22 5 i0 (.int .u8 0) .i64 .i64 Try.underlying22 Try.underlying3 hi hz0 A cap cap ol hfc d (by omega) (by rw [hz1]; omega) (by omega) (by omega) (by rw [hz2]; omega)
      (growslice_fits (by omega) (by rw [hz2]; omega))
    have hge := grownCap_ge w (cap + d) cap 5
    have hcm := grownCap_le_maxLen w (cap + d) cap 5 (by simp only [maxLen]; omega)
    generalize hG : grownCap w (cap + d) cap 5 = G at *
    have Hfc := Lib.hid hfc
    have Hap := Lib.hid hap
    have HG := Lib.hid hG
    have Hd := Lib.hid hd
    clear hfc hap hG hd
    have hh := fun W => run_head (size := 1) Try.underlying22 info_u8s (some ⟨w.heap.size, 0, none⟩) (cap + d) G n (by omega) W
    go_enter Try.func63, Try.ntmps63
    go_wp2_with (at_builtin; refine Lib.wpList_append_run _ rfl _ _ _ _ rfl _ _ rfl rfl _ _ Hap.out ?_)
    go_ret
    refine ⟨_, _, rfl, ⟨ho.1, .inr ⟨w.heap.size, G, _, rfl, hb, heap_alloc_new w.drew _, by omega, hcm, ?_, ?_⟩⟩, ((Ext.refl w).drew).alloc _⟩
    · simp [Builtin.zeroCells, hol]; omega
    · rw [← htk]
      simp only [Array.toList_append, Nat.mul_one]
      rw [List.take_append_of_le_length (by rw [hol]; omega)]

/-- a piece that Concat joins. -/
structure Piece where
  a : Option Addr
  n : Nat
  c : Nat
  l : List UInt8
def Piece.v (p : Piece) : Value := .slice p.a p.n p.c
def pieces (ps : List Piece) : List UInt8 := (ps.map (·.l)).flatten
theorem pieces_snoc (ps : List Piece) (p : Piece) : pieces (ps ++ [p]) = pieces ps ++ p.l := by simp [pieces]
theorem take_snoc_get {α : Type} (l : List α) (k : Nat) (h : k < l.length) : l.take (k + 1) = l.take k ++ [l[k]] := by
  rw [List.take_add_one, List.getElem?_eq_getElem h]; rfl
theorem pieces_take_le (ps : List Piece) (k : Nat) : (pieces (ps.take k)).length ≤ (pieces ps).length := by
  have e : pieces ps = pieces (ps.take k) ++ pieces (ps.drop k) := by
    unfold pieces; rw [← List.flatten_append, ← List.map_append, List.take_append_drop]
  rw [e, List.length_append]; omega

set_option maxHeartbeats 1000000 in
/-- slices.Concat at bytes: all pieces, one behind the other, in new memory. -/
theorem concat_any (B : Option Addr) (m c : Nat) (ps : List Piece) (w : World) (hB : Rd w 1 B m c (ps.map Piece.v)) (hps : ∀ p ∈ ps, Rd w 1 p.a p.n p.c (bvs p.l)) (hs : (pieces ps).length ≤ 70368744177664) :
    Calls Try.prog 53 #[.slice B m c] w fun e w' => ∃ A' n' cap', e = .returned (.slice A' n' cap') ∧
      w'.ownsRow w.heap.size 5 1 (.slice A' n' cap') n' (bvs (pieces ps)) ∧ Ext w w' := by
  have hm : ps.length = m := by have := hB.len; simpa using this
  have hle := hB.le
  have htop := hB.top
  unfold maxLen at htop
  have Hm := Lib.hid hm
  clear hm
  have Hs := Lib.hid hs
  have step : ∀ k, k < m → ∃ (p : Piece) (b o : Nat), ps[k]? = some p ∧ B = some ⟨b, o, none⟩ ∧ w.cell? ⟨b, o + k, none⟩ = some (.slice p.a p.n p.c) ∧ Rd w 1 p.a p.n p.c (bvs p.l) ∧ pieces (ps.take (k + 1)) = pieces (ps.take k) ++ p.l ∧ (pieces (ps.take k)).length + p.n ≤ 70368744177664 := by
    intro k hk
    have hlt : k < ps.length := by have := Hm.out; omega
    obtain ⟨b, o, hb, hc⟩ := hB.at_ (by omega)
    have hr := hps ps[k] (List.getElem_mem hlt)
    have e := pieces_snoc (ps.take k) ps[k]
    rw [← take_snoc_get ps k hlt] at e
    have hle := pieces_take_le ps (k + 1)
    have := Hs.out
    refine ⟨ps[k], b, o, List.getElem?_eq_getElem hlt, hb, ?_, hr, e, ?_⟩
    · rw [hc k (by omega), List.getElem?_map, List.getElem?_eq_getElem hlt]; rfl
    · rw [e, List.length_append, hr.blen] at hle; omega
  clear hs
  go_enter Try.func53, Try.ntmps53
  go_wp2
  go_loop [3, 5, 11] (fun s _ i => ∃ k : Nat, k ≤ m ∧ i = .int .i64 k ∧ s = .int .i64 ((pieces (ps.take k)).length : Nat)) (fun _ _ i => m - (intOf i).toNat)
  case atStart => exact ⟨0, Nat.zero_le _, rfl, rfl⟩
  case round =>
    obtain ⟨k, hk, rfl, rfl⟩ := hrel
    by_cases hlt : k < m
    · obtain ⟨p, b, o, hp, rfl, hcell, hr, hsn, hsum⟩ := step k hlt
      have hbl := hr.blen
      have hnew : (pieces (ps.take (k + 1))).length = (pieces (ps.take k)).length + p.n := by rw [hsn, List.length_append, hbl]
      have Hnew := Lib.hid hnew
      clear step hsn hnew hbl
      generalize (pieces (ps.take k)).length = t at *
      go_wp2
      go_round
      case rel => exact ⟨k + 1, by omega, by go_num, by rw [Hnew.out]; go_num⟩
      case measure => simp [intOf]; omega
    · obtain rfl : k = m := by omega
      have hall : ps.take k = ps := List.take_of_length_le (by have := Hm.out; omega)
      rw [hall]
      have hs := Hs.out
      clear hall
      generalize hT : (pieces ps).length = t at *
      have HT := Lib.hid hT
      clear hT
      go_wp2_with (go_at_call 63; refine (grow_any none 0 0 [] t w.heap.size hs (by omega) w (Nat.le_refl _) (World.ownsRow_nil _ _ _ _)).mono ?_; rintro e w1 ⟨A1, c1, rfl, ho1, hx1⟩)
      go_loopw [6, 8, 27] (fun v _ i wr => ∃ (k' : Nat) (A' : Option Addr) (n' c' : Nat), k' ≤ k ∧ i = .int .i64 k' ∧ v = .slice A' n' c' ∧ wr.ownsRow w.heap.size 5 1 (.slice A' n' c') n' (bvs (pieces (ps.take k'))) ∧ Ext w wr) (fun _ _ i _ => k - (intOf i).toNat)
      case atStart => exact ⟨0, _, _, _, Nat.zero_le _, rfl, rfl, ho1, hx1⟩
      case round =>
        obtain ⟨j, A2, n2, c2, hj, rfl, rfl, ho2, hx2⟩ := hrel
        by_cases hlt2 : j < k
        · obtain ⟨p, b, o, hp, rfl, hcell, hr, hsn, hsum⟩ := step j hlt2
          have hcell2 : wr.cell? ⟨b, o + j, none⟩ = some (.slice p.a p.n p.c) := (Below.cell hx2 (World.block_lt_of_cell? w ⟨b, o + j, none⟩ hcell)).trans hcell
          have hn2 : n2 = (pieces (ps.take j)).length := by have := ho2.1; rw [bvs_length] at this; omega
          have hsum2 : n2 + p.n ≤ 70368744177664 := by omega
          have Hsn := Lib.hid hsn
          clear step hsn hcell hn2 hsum
          go_wp2_with (at_builtin; refine wpl_append rfl _ _ _ rfl Try.underlying22 info_u8 rfl (by decide) rfl rfl ho2 (hr.ext hx2) (bvs_oneCell _) (by simp only [maxLen]; omega) (by omega) hx2.size ?_; intro A3 n3 c3 w3 hn3 ho3 hg3 _)
          go_roundw
          case rel => exact ⟨j + 1, _, _, _, by omega, by go_num, rfl, by rw [Hsn.out, bvs_append]; exact ho3, hx2.grown hg3 (own_block_ge ho2)⟩
          case measure => simp [intOf]; omega
        · obtain rfl : j = k := by omega
          have hall : ps.take j = ps := List.take_of_length_le (by have := Hm.out; omega)
          rw [hall] at ho2
          clear hall
          go_wp2
          go_ret
          exact ⟨_, _, _, rfl, ho2, hx2⟩
end Go.Proofs.Ytdnioigcgggdbaa
