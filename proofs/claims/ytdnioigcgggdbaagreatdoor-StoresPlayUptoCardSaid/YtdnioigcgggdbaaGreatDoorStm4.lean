/-
  A slice of the call's own, cut to its first cells; cleared from a place on. Nothing of the program stands here.
  stores: the searches of Open.
  stores: DeleteFunc.
-/
import Derived.Test.YtdnioigcgggdbaaGreatDoorMaa
import Derived.Test.YtdnioigcgggdbaaGreatDoorMac
import Derived.Lib.SliceRun
import Derived.Test.YtdnioigcgggdbaaGreatDoorSt3
import Derived.Test.YtdnioigcgggdbaaGreatDoorFr9
set_option linter.unusedVariables false
set_option linter.unusedSimpArgs false
namespace Go.Proofs.YtdnioigcgggdbaaGreatDoor
open Go.RowKit

theorem own_shrink {w : World} {e : TypeId} {b n m c : Nat} {xs : List Value} (h : w.ownsRow 0 e 1 (.slice (some ⟨b, 0, none⟩) n c) n xs) (hm : m ≤ n) : w.ownsRow 0 e 1 (.slice (some ⟨b, 0, none⟩) m c) m (xs.take m) := by
  obtain ⟨hl, h2⟩ := h
  refine ⟨by rw [List.length_take]; omega, ?_⟩
  rcases h2 with ⟨hv, -⟩ | ⟨g, c', cur, hv, hg, hh, hnc, hcm, hcs, htake⟩
  · cases hv
  · injection hv with e1 e2 e3
    injection e1 with e1
    injection e1 with e1
    subst e1 e3
    exact .inr ⟨b, c, cur, rfl, hg, hh, by omega, hcm, hcs, by rw [← htake, List.take_take]; congr 1; omega⟩
theorem Holds.shrink {w : World} {L : List Ent} {e : TypeId} {b n m c : Nat} {xs : List Value} (H : Holds w (ownE e 1 (.slice (some ⟨b, 0, none⟩) n c) n xs :: L)) (hm : m ≤ n) : Holds w (ownE e 1 (.slice (some ⟨b, 0, none⟩) m c) m (xs.take m) :: L) :=
  H.set rfl (.refl _ w) (own_shrink H.head hm) fun _ hb => .inl hb
/-- clear of the cells behind a place. -/
theorem wpl_clear {P : Program} {ops : Array Oper} {rest : List Oper} {a : Act} {w : World} {Q : Exit → Act → World → Prop} {L L' : List Ent} {dst : Option Tmp} {x : Operand} {t : TypeId} {ty : TypeId} {pos : String} {after : Array Edge} {gd : Option (Nat × Bool)} (H : Holds w L)
    (hw : Region.wanted ⟨dst, .call { callee := .builtin .clear, args := #[x], argTypes := #[t] }, ty, pos, after, gd⟩ (yielded ops a.tmps) = true)
    {b k m c : Nat} (hx : a.eval x = .slice (some ⟨b, k, none⟩) m c) {e : TypeId} {z : Value} (ht : P.underlying t = some (.slice e)) (hv : ∀ w, (zeroValue e).run P w = .ok z w) (hz : z.cells = #[z]) (h1 : z.oneCell' = true) (hm0 : 0 < m)
    {n n' cap : Nat} {xs : List Value} (hm : Upd (ownE e 1 (.slice (some ⟨b, 0, none⟩) n cap) n' xs) (ownE e 1 (.slice (some ⟨b, 0, none⟩) n cap) n' (setL xs k (List.replicate m z))) L L') (hk : k + m ≤ xs.length)
    (h : ∀ w', Holds w' L' → wpList P ops Q rest (a.put dst (.tuple #[])) w') : wpList P ops Q (⟨dst, .call { callee := .builtin .clear, args := #[x], argTypes := #[t] }, ty, pos, after, gd⟩ :: rest) a w := by
  obtain ⟨hth, hH⟩ := H.writeO (vs := List.replicate m z) (k := k) hm (by rw [List.length_replicate]; exact hk)
  rw [List.length_replicate] at hth
  have hrun := Lib.run_clear_slice (P := P) w t e ty z ht hv hz h1 b k m c hm0 (fun j hj => (hth j hj).1) (fun j hj => (hth j hj).2)
  refine wpList_step fun K hK => ?_
  rw [if_pos hw]
  unfold Oper.wp execOp
  simp only [resolve, invoke, builtin, Sem.run_bind, Sem.run_pure, Result.andThen_ok, List.map_toArray, List.map_cons, List.map_nil, hx, hrun]
  exact hK _ _ (h _ hH)
end Go.Proofs.YtdnioigcgggdbaaGreatDoor
namespace Go.Proofs.YtdnioigcgggdbaaGreatDoor
open Go.RowKit
section
variable {W : World} {L L' L0 : List Ent} {R : Ending → World → Prop} {A : Option Addr} {b o m c p : Nat} {l : List UInt8}
set_option maxRecDepth 100000 in
set_option maxHeartbeats 1000000 in
theorem nzO_k (x : UInt8) (H : Holds W L) (k : ∀ w', Holds w' L → R (.returned (.bool (x != 0))) w') : Calls Tryz.prog 37 #[.int .u8 (x.toNat : Nat)] W R := by
  have HK := Lib.hid k; clear k
  have hx : (x != 0) = ((x.toNat : Int) != 0) := by
    by_cases h : x = 0
    · subst h; rfl
    · have : x.toNat ≠ 0 := fun h' => h (UInt8.toNat_inj.1 h')
      rw [bne_iff_ne.2 h, bne_iff_ne.2 (show (x.toNat : Int) ≠ 0 by omega)]
  rw [hx] at HK
  clear hx
  go_enter Tryz.func37, Tryz.ntmps37
  go_wp2_with (first | go_big_skip )
  exact HK.out _ H
set_option maxRecDepth 100000 in
set_option maxHeartbeats 1000000 in
theorem indexO_k (hn : m ≤ 1000000) (G : Gives L fun w => Rd w 1 A m c (bvs l)) (H : Holds W L) (k : ∀ (r : Int) w', (l.any (· != 0) = decide (0 ≤ r)) → Holds w' L → R (.returned (.int .i64 r)) w') :
    Calls Tryz.prog 96 #[.slice A m c, .func (.func 37) #[] #[]] W R := by
  have HK := Lib.hid k; clear k
  have hl := (G W H).blen
  go_enter Tryz.func96, Tryz.ntmps96
  go_wp2_with (first | go_big_skip )
  go_loopw [8] (fun i wr => ∃ k : Nat, k ≤ m ∧ i = .int .i64 k ∧ (l.take k).any (· != 0) = false ∧ Holds wr L) (fun i _ => m - (intOf i).toNat)
  case atStart => exact ⟨0, by omega, rfl, by simp, H⟩
  case round =>
    clear H
    obtain ⟨k, hk, rfl, he, H⟩ := hrel
    rename World => W
    by_cases hlt : k < m
    · have hlk : k < l.length := by omega
      have hsn : (l.take (k + 1)).any (· != 0) = ((l.take k).any (· != 0) || (l[k] != 0)) := by
        rw [List.take_add_one, List.getElem?_eq_getElem hlk, List.any_append]
        simp
      have hall : l.any (· != 0) = ((l.take (k + 1)).any (· != 0) || (l.drop (k + 1)).any (· != 0)) := by
        rw [← List.any_append, List.take_append_drop]
      have Hsn := Lib.hid hsn
      have Hall := Lib.hid hall
      have He := Lib.hid he
      clear hsn hall he
      obtain ⟨a1, o1, rfl, -⟩ := (G W H).at_ (by omega)
      have hki : (k : Int) < m := by omega
      have hk0 : (0 : Int) ≤ k := by omega
      cases hz : (l[k] != 0) with
      | true =>
        go_wp2_with (first | ((with_reducible apply wpl_loadB H); (case hs => exact sc _ rfl); (case hw | hx => rfl); (case hm => (first | assumption )); (case hj => first | assumption )) | ((with_reducible apply nzO_k _ H); clear H; (try clear W); intro W H; rw [hz]))
        exact HK.out _ _ (by rw [Hall.out, Hsn.out, hz, decide_eq_true hk0]; simp) H
      | false =>
        go_wp2_with (first | ((with_reducible apply wpl_loadB H); (case hs => exact sc _ rfl); (case hw | hx => rfl); (case hm => (first | assumption )); (case hj => first | assumption )) | ((with_reducible apply nzO_k _ H); clear H; (try clear W); intro W H; rw [hz]))
        exact ⟨⟨k + 1, by omega, congrArg (Value.int .i64) (by omega), by rw [Hsn.out, He.out, hz]; rfl, H⟩, by simp only [intOf]; omega⟩
    · have hkm : k = m := by omega
      subst hkm
      rw [List.take_of_length_le (by omega)] at he
      have He := Lib.hid he
      clear he
      have hki : ¬ (k : Int) < k := by omega
      go_wp2_with (first | go_big_skip )
      exact HK.out _ _ (by rw [He.out]; rfl) H
set_option maxRecDepth 100000 in
set_option maxHeartbeats 1000000 in
theorem containsO_k (hn : m ≤ 1000000) (G : Gives L fun w => Rd w 1 A m c (bvs l)) (H : Holds W L) (k : ∀ w', Holds w' L → R (.returned (.bool (l.any (· != 0)))) w') :
    Calls Tryz.prog 36 #[.slice A m c, .func (.func 37) #[] #[]] W R := by
  have HK := Lib.hid k; clear k
  go_enter Tryz.func36, Tryz.ntmps36
  go_wp2_with (first | ((with_reducible apply indexO_k hn G H); clear H; (try clear W); intro r W hr H; rw [hr] at HK))
  exact HK.out _ H
end
/-- a list of places, as cells. -/
def ivs (l : List Nat) : List Value := l.map fun (i : Nat) => Value.int .i64 (i : Int)
theorem ivs_len (l : List Nat) : (ivs l).length = l.length := List.length_map ..
theorem ivs_at {l : List Nat} {j x : Nat} (h : l[j]? = some x) : (ivs l)[j]? = some (.int .i64 (x : Int)) := by unfold ivs; rw [List.getElem?_map, h]; rfl
/-- where the first one lies that passes; -1: none. -/
def fstI (f : Nat → Bool) (l : List Nat) : Int := match l.findIdx? f with
  | some i => (i : Int)
  | none => -1
section
variable {W : World} {L L' L0 : List Ent} {R : Ending → World → Prop} {A : Option Addr} {n c B p en : Nat} {x0 x1 x2 : Value} {r : List Value} {l : List Nat}
set_option maxRecDepth 100000 in
set_option maxHeartbeats 400000 in
theorem lt_k (i : Nat) (H : Holds W L) (hB : blk B [.pointer (some ⟨p, 0, none⟩)] 33 ∈ L) (hp : blk p (x0 :: x1 :: x2 :: .int .i64 en :: r) 76 ∈ L) (k : ∀ w', Holds w' L → R (.returned (.bool (decide (i < en)))) w') :
    Calls Tryz.prog 40 #[.int .i64 i, .pointer (some ⟨B, 0, none⟩)] W R := by
  have HK := Lib.hid k; clear k
  go_enter Tryz.func40, Tryz.ntmps40
  go_wp2_with (first | ((with_reducible apply wpl_load H); (case hs => exact sc _ rfl); (case hw | hx => rfl); (case hm => (with_reducible repeat first | assumption)); (case hv => rfl)) )
  exact HK.out _ H
set_option maxRecDepth 100000 in
set_option maxHeartbeats 400000 in
theorem ge_k (i : Nat) (he : en ≤ 1000000) (H : Holds W L) (hB : blk B [.pointer (some ⟨p, 0, none⟩)] 33 ∈ L) (hp : blk p (x0 :: x1 :: x2 :: .int .i64 en :: r) 76 ∈ L) (k : ∀ w', Holds w' L → R (.returned (.bool (decide (en + 5 ≤ i)))) w') :
    Calls Tryz.prog 42 #[.int .i64 i, .pointer (some ⟨B, 0, none⟩)] W R := by
  rw [show decide (en + 5 ≤ i) = decide ((en : Int) + 5 ≤ (i : Int)) from decide_eq_decide.2 (by omega)] at k
  have HK := Lib.hid k; clear k
  go_enter Tryz.func42, Tryz.ntmps42
  go_wp2_with (first | ((with_reducible apply wpl_load H); (case hs => exact sc _ rfl); (case hw | hx => rfl); (case hm => (with_reducible repeat first | assumption)); (case hv => rfl)) )
  exact HK.out _ H
theorem fstI_none {f : Nat → Bool} {l : List Nat} (h : ∀ x ∈ l, f x = false) : fstI f l = -1 := by
  unfold fstI
  rw [List.findIdx?_eq_none_iff.2 h]
theorem fstI_some {f : Nat → Bool} {l : List Nat} {i x : Nat} (h : l[i]? = some x) (hx : f x = true) (hb : ∀ y ∈ l.take i, f y = false) : fstI f l = i := by
  have : l.findIdx? f = some i := by
    rw [List.findIdx?_eq_some_iff_getElem]
    obtain ⟨h1, h2⟩ := List.getElem?_eq_some_iff.1 h
    refine ⟨h1, by rw [h2]; exact hx, fun j hj => ?_⟩
    have := hb l[j] (List.mem_iff_getElem?.2 ⟨j, by rw [List.getElem?_take, if_pos hj, List.getElem?_eq_getElem]⟩)
    simp [this]
  unfold fstI
  rw [this]
set_option maxRecDepth 100000 in
set_option maxHeartbeats 1000000 in
theorem index2_k (hl : l.length = n) (hn : n ≤ 1000000) (G : Gives L fun w => Rd w 1 A n c (ivs l)) (H : Holds W L) (hB : blk B [.pointer (some ⟨p, 0, none⟩)] 33 ∈ L) (hp : blk p (x0 :: x1 :: x2 :: .int .i64 en :: r) 76 ∈ L) (k : ∀ w', Holds w' L → R (.returned (.int .i64 (fstI (fun i => decide (i < en)) l))) w') :
    Calls Tryz.prog 98 #[.slice A n c, .func (.func 40) #[] #[.pointer (some ⟨B, 0, none⟩)]] W R := by
  have HK := Lib.hid k; clear k
  go_enter Tryz.func98, Tryz.ntmps98
  go_wp2_with (first | go_big_skip )
  go_loopw [8] (fun i wr => ∃ j : Nat, j ≤ n ∧ i = .int .i64 j ∧ (∀ y ∈ l.take j, decide (y < en) = false) ∧ Holds wr L) (fun i _ => n - (intOf i).toNat)
  case atStart => exact ⟨0, by omega, rfl, (fun y hy => by simp at hy), H⟩
  case round =>
    clear H
    obtain ⟨j, hj, rfl, hb, H⟩ := hrel
    rename World => W
    have Hb := Lib.hid hb
    clear hb
    by_cases hlt : j < n
    · have hji : (j : Int) < n := by omega
      obtain ⟨x, hx⟩ : ∃ x, l[j]? = some x := ⟨_, List.getElem?_eq_getElem (by omega)⟩
      obtain ⟨a1, o1, rfl, -⟩ := (G W H).at_ (by omega)
      have Hx := Lib.hid hx
      have Hv := Lib.hid (ivs_at hx)
      clear hx
      cases hz : decide (x < en) with
      | true =>
        have Hz := Lib.hid hz
        clear hz
        go_wp2_with (first | ((with_reducible apply wpl_loadVs (o := o1) (j := j) (v := .int .i64 (x : Int)) H); (case hs => exact sc _ rfl); (case hw | hx => rfl); (case hm => exact G); (case hj => omega); (case hv => exact Hv.out)) | ((with_reducible apply lt_k x H hB hp); clear H; (try clear W); intro W H; rw [Hz.out]))
        rw [fstI_some (f := fun i => decide (i < en)) Hx.out Hz.out Hb.out] at HK
        exact HK.out _ H
      | false =>
        have Hz := Lib.hid hz
        clear hz
        go_wp2_with (first | ((with_reducible apply wpl_loadVs (o := o1) (j := j) (v := .int .i64 (x : Int)) H); (case hs => exact sc _ rfl); (case hw | hx => rfl); (case hm => exact G); (case hj => omega); (case hv => exact Hv.out)) | ((with_reducible apply lt_k x H hB hp); clear H; (try clear W); intro W H; rw [Hz.out]))
        refine ⟨⟨j + 1, by omega, congrArg (Value.int .i64) (by omega), fun y hy => ?_, H⟩, by simp only [intOf]; omega⟩
        rw [List.take_add_one, Hx.out] at hy
        rcases List.mem_append.1 hy with h | h
        · exact Hb.out y h
        · obtain rfl : y = x := by simpa using h
          exact Hz.out
    · obtain rfl : j = n := by omega
      have hb := Hb.out
      rw [List.take_of_length_le (by omega)] at hb
      rw [fstI_none (f := fun i => decide (i < en)) hb] at HK
      go_wp2_with (first | go_big_skip )
      exact HK.out _ H
set_option maxRecDepth 100000 in
set_option maxHeartbeats 1000000 in
theorem index3_k (he : en ≤ 1000000) (hl : l.length = n) (hn : n ≤ 1000000) (G : Gives L fun w => Rd w 1 A n c (ivs l)) (H : Holds W L) (hB : blk B [.pointer (some ⟨p, 0, none⟩)] 33 ∈ L) (hp : blk p (x0 :: x1 :: x2 :: .int .i64 en :: r) 76 ∈ L) (k : ∀ w', Holds w' L → R (.returned (.int .i64 (fstI (fun i => decide (en + 5 ≤ i)) l))) w') :
    Calls Tryz.prog 98 #[.slice A n c, .func (.func 42) #[] #[.pointer (some ⟨B, 0, none⟩)]] W R := by
  have HK := Lib.hid k; clear k
  go_enter Tryz.func98, Tryz.ntmps98
  go_wp2_with (first | go_big_skip )
  go_loopw [8] (fun i wr => ∃ j : Nat, j ≤ n ∧ i = .int .i64 j ∧ (∀ y ∈ l.take j, decide (en + 5 ≤ y) = false) ∧ Holds wr L) (fun i _ => n - (intOf i).toNat)
  case atStart => exact ⟨0, by omega, rfl, (fun y hy => by simp at hy), H⟩
  case round =>
    clear H
    obtain ⟨j, hj, rfl, hb, H⟩ := hrel
    rename World => W
    have Hb := Lib.hid hb
    clear hb
    by_cases hlt : j < n
    · have hji : (j : Int) < n := by omega
      obtain ⟨x, hx⟩ : ∃ x, l[j]? = some x := ⟨_, List.getElem?_eq_getElem (by omega)⟩
      obtain ⟨a1, o1, rfl, -⟩ := (G W H).at_ (by omega)
      have Hx := Lib.hid hx
      have Hv := Lib.hid (ivs_at hx)
      clear hx
      cases hz : decide (en + 5 ≤ x) with
      | true =>
        have Hz := Lib.hid hz
        clear hz
        go_wp2_with (first | ((with_reducible apply wpl_loadVs (o := o1) (j := j) (v := .int .i64 (x : Int)) H); (case hs => exact sc _ rfl); (case hw | hx => rfl); (case hm => exact G); (case hj => omega); (case hv => exact Hv.out)) | ((with_reducible apply ge_k x he H hB hp); clear H; (try clear W); intro W H; rw [Hz.out]))
        rw [fstI_some (f := fun i => decide (en + 5 ≤ i)) Hx.out Hz.out Hb.out] at HK
        exact HK.out _ H
      | false =>
        have Hz := Lib.hid hz
        clear hz
        go_wp2_with (first | ((with_reducible apply wpl_loadVs (o := o1) (j := j) (v := .int .i64 (x : Int)) H); (case hs => exact sc _ rfl); (case hw | hx => rfl); (case hm => exact G); (case hj => omega); (case hv => exact Hv.out)) | ((with_reducible apply ge_k x he H hB hp); clear H; (try clear W); intro W H; rw [Hz.out]))
        refine ⟨⟨j + 1, by omega, congrArg (Value.int .i64) (by omega), fun y hy => ?_, H⟩, by simp only [intOf]; omega⟩
        rw [List.take_add_one, Hx.out] at hy
        rcases List.mem_append.1 hy with h | h
        · exact Hb.out y h
        · obtain rfl : y = x := by simpa using h
          exact Hz.out
    · obtain rfl : j = n := by omega
      have hb := Hb.out
      rw [List.take_of_length_le (by omega)] at hb
      rw [fstI_none (f := fun i => decide (en + 5 ≤ i)) hb] at HK
      go_wp2_with (first | go_big_skip )
      exact HK.out _ H
theorem fstI_any (f : Nat → Bool) (l : List Nat) : decide (0 ≤ fstI f l) = l.any f := by
  unfold fstI
  cases h : l.findIdx? f with
  | none =>
    have h2 := List.findIdx?_eq_none_iff.1 h
    have h3 : l.any f = false := by rw [List.any_eq_false]; intro x hx; rw [h2 x hx]; simp
    rw [h3]; rfl
  | some i =>
    obtain ⟨h1, h2, -⟩ := List.findIdx?_eq_some_iff_getElem.1 h
    have h3 : l.any f = true := List.any_eq_true.2 ⟨_, List.getElem_mem h1, h2⟩
    rw [h3]
    simp
set_option maxRecDepth 100000 in
set_option maxHeartbeats 1000000 in
theorem contains3_k (he : en ≤ 1000000) (hl : l.length = n) (hn : n ≤ 1000000) (G : Gives L fun w => Rd w 1 A n c (ivs l)) (H : Holds W L) (hB : blk B [.pointer (some ⟨p, 0, none⟩)] 33 ∈ L) (hp : blk p (x0 :: x1 :: x2 :: .int .i64 en :: r) 76 ∈ L) (k : ∀ w', Holds w' L → R (.returned (.bool (l.any fun i => decide (en + 5 ≤ i)))) w') :
    Calls Tryz.prog 41 #[.slice A n c, .func (.func 42) #[] #[.pointer (some ⟨B, 0, none⟩)]] W R := by
  rw [← fstI_any] at k
  have HK := Lib.hid k; clear k
  go_enter Tryz.func41, Tryz.ntmps41
  go_wp2_with (first | ((with_reducible apply index3_k he hl hn G H hB hp); clear H; (try clear W); intro W H))
  exact HK.out _ H
end
end Go.Proofs.YtdnioigcgggdbaaGreatDoor
namespace Go.Proofs.YtdnioigcgggdbaaGreatDoor
open Go.RowKit
/-- what is kept of the first j. -/
def keptN (en : Nat) (l : List Nat) : List Nat := l.filter fun i => !decide (i < en)
theorem keptN_snoc (en : Nat) (l : List Nat) (x : Nat) : keptN en (l ++ [x]) = if x < en then keptN en l else keptN en l ++ [x] := by
  unfold keptN
  rw [List.filter_append]
  by_cases h : x < en <;> simp [h]
theorem keptN_le (en : Nat) (l : List Nat) : (keptN en l).length ≤ l.length := List.length_filter_le ..
theorem keptN_all {en : Nat} {l : List Nat} (h : ∀ y ∈ l, decide (y < en) = false) : keptN en l = l := List.filter_eq_self.2 fun y hy => by rw [h y hy]; rfl
/-- the cells behind j rounds: what is kept, and behind it what stood there. -/
def delK (en : Nat) (l : List Nat) (j : Nat) : List Nat := keptN en (l.take j) ++ l.drop (keptN en (l.take j)).length
theorem delK_len (en : Nat) (l : List Nat) (j : Nat) : (delK en l j).length = l.length := by
  have h := keptN_le en (l.take j)
  rw [List.length_take] at h
  unfold delK
  rw [List.length_append, List.length_drop]
  omega
theorem delK_at {en : Nat} {l : List Nat} {j x : Nat} (h : l[j]? = some x) : (delK en l j)[j]? = some x := by
  have h1 := keptN_le en (l.take j)
  rw [List.length_take] at h1
  unfold delK
  rw [List.getElem?_append_right (by omega), List.getElem?_drop, ← h]
  congr 1
  omega
theorem delK_keep {en : Nat} {l : List Nat} {j x : Nat} (h : l[j]? = some x) (hx : ¬ x < en) : (delK en l j).set (keptN en (l.take j)).length x = delK en l (j + 1) := by
  have hj := (List.getElem?_eq_some_iff.1 h).1
  have h1 := keptN_le en (l.take j)
  rw [List.length_take] at h1
  unfold delK
  rw [List.take_add_one, h, Option.toList_some, keptN_snoc, if_neg hx, List.set_append_right _ _ (Nat.le_refl _), Nat.sub_self, List.length_append, List.length_singleton]
  rw [List.drop_eq_getElem_cons (show (keptN en (l.take j)).length < l.length by omega), List.set_cons_zero, List.append_assoc, List.singleton_append]
theorem delK_drop {en : Nat} {l : List Nat} {j x : Nat} (h : l[j]? = some x) (hx : x < en) : delK en l j = delK en l (j + 1) ∧ keptN en (l.take (j + 1)) = keptN en (l.take j) := by
  unfold delK
  rw [List.take_add_one, h, Option.toList_some, keptN_snoc, if_pos hx]
  exact ⟨rfl, rfl⟩
theorem ivs_set {l : List Nat} {i x : Nat} : (ivs l).set i (.int .i64 (x : Int)) = ivs (l.set i x) := by unfold ivs; rw [List.map_set]
section
variable {W : World} {L L' L0 : List Ent} {R : Ending → World → Prop} {n c B p en : Nat} {x0 x1 x2 : Value} {r : List Value} {l : List Nat}
set_option maxRecDepth 100000 in
set_option maxHeartbeats 2000000 in
theorem delete_k {A : Option Addr} (hl : l.length = n) (hn : n ≤ 1000000) (H : Holds W L) (hm : Pull (ownE 3 1 (.slice A n c) n (ivs l)) L L0) (hB : blk B [.pointer (some ⟨p, 0, none⟩)] 33 ∈ L0) (hp : blk p (x0 :: x1 :: x2 :: .int .i64 en :: r) 76 ∈ L0)
    (k : ∀ w', Holds w' (ownE 3 1 (.slice A (keptN en l).length c) (keptN en l).length (ivs (keptN en l)) :: L0) → R (.returned (.slice A (keptN en l).length c)) w') :
    Calls Tryz.prog 39 #[.slice A n c, .func (.func 40) #[] #[.pointer (some ⟨B, 0, none⟩)]] W R := by
  have H2 := H.pull hm
  clear H hm
  have H := H2
  clear H2
  have HK := Lib.hid k; clear k
  have hcn := own_le H.head
  have hB2 : blk B [.pointer (some ⟨p, 0, none⟩)] 33 ∈ ownE 3 1 (.slice A n c) n (ivs l) :: L0 := .tail _ hB
  have hp2 : blk p (x0 :: x1 :: x2 :: .int .i64 en :: r) 76 ∈ ownE 3 1 (.slice A n c) n (ivs l) :: L0 := .tail _ hp
  have G : Gives (ownE 3 1 (.slice A n c) n (ivs l) :: L0) fun w => Rd w 1 A n c (ivs l) := gives_own (.head _) rfl
  cases hf : l.findIdx? (fun i => decide (i < en)) with
  | none =>
    have hall := List.findIdx?_eq_none_iff.1 hf
    have hi : fstI (fun i => decide (i < en)) l = -1 := fstI_none hall
    rw [keptN_all hall, hl] at HK
    have Hi := Lib.hid hi
    clear hi hall hf
    go_enter Tryz.func39, Tryz.ntmps39
    go_wp2_with (first | ((with_reducible apply index2_k hl hn G H hB2 hp2); clear H; (try clear W); intro W H; rw [Hi.out]))
    exact HK.out _ H
  | some i =>
    obtain ⟨h1, h2, h3⟩ := List.findIdx?_eq_some_iff_getElem.1 hf
    have hi : fstI (fun i => decide (i < en)) l = (i : Int) := by unfold fstI; rw [hf]
    have hpre : ∀ y ∈ l.take i, decide (y < en) = false := fun y hy => by
      obtain ⟨j, hj⟩ := List.mem_iff_getElem?.1 hy
      rw [List.getElem?_take] at hj
      split at hj
      · rename_i hji
        obtain ⟨h4, rfl⟩ := List.getElem?_eq_some_iff.1 hj
        have := h3 j hji
        simpa using this
      · cases hj
    have hxi : l[i]? = some l[i] := List.getElem?_eq_getElem h1
    have hlt : l[i] < en := of_decide_eq_true h2
    have e0 := keptN_all hpre
    have e1 := (delK_drop hxi hlt).1
    have e2 := (delK_drop hxi hlt).2
    have e3 : delK en l i = l := by unfold delK; rw [e0, List.length_take, Nat.min_eq_left (Nat.le_of_lt h1), List.take_append_drop]
    have e4 : (keptN en (l.take (i + 1))).length = i := by rw [e2, e0, List.length_take]; omega
    have he : ivs l = ivs (delK en l (i + 1)) := by rw [← e1, e3]
    have He := Lib.hid he
    have Hi := Lib.hid hi
    have E4 := Lib.hid e4
    have Hl := Lib.hid hl
    have hin : i < n := by omega
    obtain ⟨ab, rfl⟩ := own_some H.head (by omega)
    clear hi he e4 e3 e2 e1 e0 hlt hxi hpre h1 h2 h3 hf
    have hne : (((i : Nat) : Int) == -1) = false := by rw [beq_eq_false_iff_ne]; omega
    go_enter Tryz.func39, Tryz.ntmps39
    go_wp2_with (first | ((with_reducible apply index2_k hl hn G H hB2 hp2); clear H; (try clear W); intro W H; rw [Hi.out]; rw [He.out] at H))
    go_loopw [5, 6] (fun iv jv wr => ∃ (j q : Nat), j ≤ n ∧ q < j ∧ (keptN en (l.take j)).length = q ∧ jv = .int .i64 j ∧ iv = .int .i64 q ∧ Holds wr (ownE 3 1 (.slice (some ⟨ab, 0, none⟩) n c) n (ivs (delK en l j)) :: L0)) (fun _ jv _ => n - (intOf jv).toNat)
    case atStart => exact ⟨i + 1, i, by omega, by omega, E4.out, by congr 1, rfl, H⟩
    case round =>
      clear H W
      obtain ⟨j, q, hj, hqj, hq, rfl, rfl, H⟩ := hrel
      rename World => W
      have Hq := Lib.hid hq
      clear hq
      by_cases hjn : j < n
      · have hji : (j : Int) < n := by omega
        have hqi : (q : Int) < n := by omega
        obtain ⟨x, hx⟩ : ∃ x, l[j]? = some x := ⟨_, List.getElem?_eq_getElem (by omega)⟩
        have Hx := Lib.hid hx
        have Hv := Lib.hid (ivs_at (delK_at (en := en) hx))
        have hB3 : blk B [.pointer (some ⟨p, 0, none⟩)] 33 ∈ ownE 3 1 (.slice (some ⟨ab, 0, none⟩) n c) n (ivs (delK en l j)) :: L0 := .tail _ hB
        have hp3 : blk p (x0 :: x1 :: x2 :: .int .i64 en :: r) 76 ∈ ownE 3 1 (.slice (some ⟨ab, 0, none⟩) n c) n (ivs (delK en l j)) :: L0 := .tail _ hp
        clear hx
        cases hz : decide (x < en) with
        | true =>
          have Hz := Lib.hid hz
          clear hz
          go_wp2_with (first | ((with_reducible apply wpl_loadVs0 (j := j) (v := .int .i64 (x : Int)) H); (case hs => exact sc _ rfl); (case hw | hx => rfl); (case hm => exact gives_own (.head _) rfl); (case hj => omega); (case hv => exact Hv.out)) | ((with_reducible apply lt_k x H hB3 hp3); clear H; (try clear W); intro W H; rw [Hz.out]))
          have e := delK_drop Hx.out (of_decide_eq_true Hz.out)
          rw [e.1] at H
          exact ⟨⟨j + 1, q, by omega, by omega, by rw [e.2]; exact Hq.out, congrArg (Value.int .i64) (by omega), rfl, H⟩, by simp only [intOf]; omega⟩
        | false =>
          have Hz := Lib.hid hz
          clear hz
          go_wp2_with (first | ((with_reducible apply wpl_storeO H); (case hs => exact sz_sc _ rfl); (case hw | hx => rfl); (case hy => (first | exact (rfl : _ = Value.int _ _) )); (case h1 => rfl); (case hm => (with_reducible repeat first | exact Upd.here)); (case hj => first | omega); clear H; (try clear W); intro W H) | ((with_reducible apply wpl_loadVs0 (j := j) (v := .int .i64 (x : Int)) H); (case hs => exact sc _ rfl); (case hw | hx => rfl); (case hm => exact gives_own (.head _) rfl); (case hj => omega); (case hv => exact Hv.out)) | ((with_reducible apply lt_k x H hB3 hp3); clear H; (try clear W); intro W H; rw [Hz.out]))
          have e := delK_keep Hx.out (of_decide_eq_false Hz.out)
          rw [Hq.out] at e
          rw [ivs_set, e] at H
          have e2 : (keptN en (l.take (j + 1))).length = q + 1 := by
            rw [List.take_add_one, Hx.out, Option.toList_some, keptN_snoc, if_neg (of_decide_eq_false Hz.out), List.length_append, Hq.out]
            rfl
          exact ⟨⟨j + 1, q + 1, by omega, by omega, e2, congrArg (Value.int .i64) (by omega), congrArg (Value.int .i64) (by omega), H⟩, by simp only [intOf]; omega⟩
      · obtain rfl : j = n := by omega
        have hqc : q < c := by omega
        have hkl : Hid (keptN en l = keptN en (l.take j)) := Lib.hid (by rw [List.take_of_length_le (by omega)])
        have hlen : Hid (q + (j - q) ≤ (ivs (delK en l j)).length) := Lib.hid (by rw [ivs_len, delK_len, Hl.out]; omega)
        have hqi : (q : Int) ≤ j := by omega
        have hqi2 : (q : Int) ≤ c := by omega
        go_wp2_with (first | ((with_reducible apply wpl_clear (z := .int .i64 0) H); (case hw | hx => rfl); (case ht => exact Tryz.underlying77); (case hv => exact fun w => by kernel_rfl); (case hz | h1 => rfl); (case hm0 => omega); (case hm => (with_reducible repeat first | exact Upd.here)); (case hk => exact hlen.out); clear H; (try clear W); intro W H))
        have H2 := H.shrink (m := q) (by omega)
        have hkl2 : keptN en l = keptN en (l.take j) := hkl.out
        have hq2 := Hq.out
        have e : (setL (ivs (delK en l j)) q (List.replicate (j - q) (Value.int .i64 0))).take q = ivs (keptN en l) := by
          rw [setL_eq _ _ _ (by rw [List.length_replicate]; exact hlen.out), List.append_assoc, List.take_append_of_le_length (by rw [List.length_take, ivs_len, delK_len, Hl.out]; omega), List.take_take, Nat.min_self, hkl2]
          unfold delK ivs
          rw [List.map_append, List.take_left' (by rw [List.length_map, hq2])]
        rw [e] at H2
        have hq3 : (keptN en l).length = q := by rw [hkl2, hq2]
        rw [hq3] at HK
        exact HK.out _ H2
end
end Go.Proofs.YtdnioigcgggdbaaGreatDoor
