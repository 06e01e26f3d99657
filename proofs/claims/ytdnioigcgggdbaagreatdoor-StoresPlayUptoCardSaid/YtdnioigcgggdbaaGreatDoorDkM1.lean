/-
  disks: a disk in memory; contracts of none, spent, Len, Waits, Blown and Fuse.
  disks: contracts of slices.Clone (of sectors), of, New.
  disks: a disk as one entry; contracts of of, New, Len, Waits, Blown, Fuse, settle and Sync.
-/
import Derived.Test.YtdnioigcgggdbaaGreatDoorMac
import Derived.Test.YtdnioigcgggdbaaGreatDoorMab
import Derived.WalkSpells
set_option linter.unusedVariables false
set_option linter.unusedSimpArgs false
namespace Go.Proofs.YtdnioigcgggdbaaGreatDoor
open Go.RowKit

/-- is it spent, with so many left? -/
def spentB (lf : Int) (bl : Bool) : Bool := bl || lf == 0
def spentL (lf : Int) (bl : Bool) : Int := if spentB lf bl = false ∧ 0 < lf then lf - 1 else lf
section
variable {W : World} {L L' : List Ent} {R : Ending → World → Prop}
set_option maxRecDepth 100000 in
set_option maxHeartbeats 400000 in
theorem none_no {g : Nat} {A : Option Addr} {n c : Nat} {r : List Value} (H : Holds W L) (hm : blk g (.slice A n c :: r) 94 ∈ L) (hn : 0 < n) (k : ∀ w', Holds w' L → R (.returned (.bool false)) w') :
    Calls Tryz.prog 50 #[.pointer (some ⟨g, 0, none⟩)] W R := by
  have HK := Lib.hid k; clear k
  have h0 : ((n : Int) == 0) = false := by rw [beq_eq_false_iff_ne]; omega
  go_enter Tryz.func50, Tryz.ntmps50
  go_wp2_with (first | ((with_reducible apply wpl_load H); (case hs => exact sc _ rfl); (case hw | hx => rfl); (case hm => (with_reducible repeat first | assumption)); (case hv => rfl)) )
  exact HK.out _ H
set_option maxRecDepth 100000 in
set_option maxHeartbeats 1000000 in
theorem spent_k {g : Nat} {x y z : Value} {lf : Int} {bl : Bool} (H : Holds W L) (hm : Upd (blk g [x, y, z, .int .i64 lf, .bool bl] 94) (blk g [x, y, z, .int .i64 (spentL lf bl), .bool (spentB lf bl)] 94) L L') (h1 : -9223372036854775808 ≤ lf) (h2 : lf ≤ 9223372036854775807)
    (k : ∀ w', Holds w' L' → R (.returned (.bool (spentB lf bl))) w') : Calls Tryz.prog 54 #[.pointer (some ⟨g, 0, none⟩)] W R := by
  obtain ⟨L0, u1, u2⟩ := hm.split
  replace H := H.pull u1
  have HK := Lib.hid (fun w' (h : Holds w' (blk g [x, y, z, .int .i64 (spentL lf bl), .bool (spentB lf bl)] 94 :: L0)) => k w' (h.perm u2.perm.symm))
  clear k hm u1 u2
  cases bl with
  | true =>
    rw [show spentL lf true = lf from by simp [spentL, spentB], show spentB lf true = true from rfl] at HK
    go_enter Tryz.func54, Tryz.ntmps54
    go_wp2_with (first | ((with_reducible apply wpl_load H); (case hs => exact sc _ rfl); (case hw | hx => rfl); (case hm => (with_reducible repeat first | exact mH)); (case hv => rfl)) | ((with_reducible apply wpl_store1 H); (case hs => exact sz_sc _ rfl); (case hw | hx => rfl); (case hy => (first | exact (rfl : _ = Value.bool _) )); (case hm => (with_reducible repeat first | exact Upd.here)); (case h1 => rfl); (case hk => exact Nat.le_of_ble_eq_true rfl); clear H; (try clear W); intro W H; simp only [setL, List.set_cons_zero, List.set_cons_succ] at H) )
    exact HK.out _ H
  | false =>
    by_cases h0 : lf = 0
    · subst h0
      go_enter Tryz.func54, Tryz.ntmps54
      go_wp2_with (first | ((with_reducible apply wpl_load H); (case hs => exact sc _ rfl); (case hw | hx => rfl); (case hm => (with_reducible repeat first | exact mH)); (case hv => rfl)) | ((with_reducible apply wpl_store1 H); (case hs => exact sz_sc _ rfl); (case hw | hx => rfl); (case hy => (first | exact (rfl : _ = Value.bool _) )); (case hm => (with_reducible repeat first | exact Upd.here)); (case h1 => rfl); (case hk => exact Nat.le_of_ble_eq_true rfl); clear H; (try clear W); intro W H; simp only [setL, List.set_cons_zero, List.set_cons_succ] at H) )
      exact HK.out _ H
    · have h3 : (lf == 0) = false := by rw [beq_eq_false_iff_ne]; exact h0
      by_cases h4 : 0 < lf
      · rw [show spentL lf false = lf - 1 from by simp [spentL, spentB, h3, h4], show spentB lf false = false from by simp [spentB, h3]] at HK
        go_enter Tryz.func54, Tryz.ntmps54
        go_wp2_with (first | ((with_reducible apply wpl_load H); (case hs => exact sc _ rfl); (case hw | hx => rfl); (case hm => (with_reducible repeat first | exact mH)); (case hv => rfl)) | ((with_reducible apply wpl_store1 H); (case hs => exact sz_sc _ rfl); (case hw | hx => rfl); (case hy => (first | exact (rfl : _ = Value.int _ _) | exact (rfl : _ = Value.bool _) )); (case hm => (with_reducible repeat first | exact Upd.here)); (case h1 => rfl); (case hk => exact Nat.le_of_ble_eq_true rfl); clear H; (try clear W); intro W H; simp only [setL, List.set_cons_zero, List.set_cons_succ] at H) )
        exact HK.out _ H
      · rw [show spentL lf false = lf from by simp [spentL, h4], show spentB lf false = false from by simp [spentB, h3]] at HK
        go_enter Tryz.func54, Tryz.ntmps54
        go_wp2_with (first | ((with_reducible apply wpl_load H); (case hs => exact sc _ rfl); (case hw | hx => rfl); (case hm => (with_reducible repeat first | exact mH)); (case hv => rfl)) | ((with_reducible apply wpl_store1 H); (case hs => exact sz_sc _ rfl); (case hw | hx => rfl); (case hy => (first | exact (rfl : _ = Value.bool _) )); (case hm => (with_reducible repeat first | exact Upd.here)); (case h1 => rfl); (case hk => exact Nat.le_of_ble_eq_true rfl); clear H; (try clear W); intro W H; simp only [setL, List.set_cons_zero, List.set_cons_succ] at H) )
        exact HK.out _ H
end
end Go.Proofs.YtdnioigcgggdbaaGreatDoor
namespace Go.Proofs.YtdnioigcgggdbaaGreatDoor
open Go.RowKit

theorem Holds.blk_own {w : World} {L : List Ent} {b n c size : Nat} {cs : List Value} {e : TypeId} (H : Holds w (blk b cs e :: L)) (hc : cs.length = c * size) (hn : n ≤ c) (hm : c ≤ 9223372036854775807) : Holds w (ownE e size (.slice (some ⟨b, 0, none⟩) n c) n (cs.take (n * size)) :: L) :=
  H.set rfl (.refl _ w) ⟨by rw [List.length_take, hc]; exact Nat.min_eq_left (Nat.mul_le_mul_right _ hn), .inr ⟨b, c, _, rfl, Nat.zero_le _, H.head, hn, by simpa [maxLen] using hm, by simpa using hc, by simp⟩⟩ fun x hx => .inl (by
    have : some b = some x := hx
    injection this with h; exact h.symm)
section
variable {W : World} {L L' : List Ent} {R : Ending → World → Prop}
set_option maxRecDepth 100000 in
set_option maxHeartbeats 1000000 in
theorem clone_k {b0 o0 n cap : Nat} {l : List UInt8} (H : Holds W L) (hr : Gives L fun w => Rd w 64 (some ⟨b0, o0, none⟩) n cap (bvs l)) (h0 : 0 < n) (hn : n ≤ 1000000) (k : ∀ b c w', Holds w' (ownE 97 64 (.slice (some ⟨b, 0, none⟩) n c) n (bvs l) :: L) → R (.returned (.slice (some ⟨b, 0, none⟩) n c)) w') :
    Calls Tryz.prog 51 #[.slice (some ⟨b0, o0, none⟩) n cap] W R := by
  have HK := Lib.hid k; clear k
  have hq := fun W a n c => Lib.run_eql_slice_nil (P := Tryz.prog) W 70 97 a n c 0 0 Tryz.underlying70
  go_enter Tryz.func51, Tryz.ntmps51
  go_wp2_with (first | ((with_reducible refine wpl_absorb H ?_); clear H; (first  | generalize W.heap.size = q0); (try clear W); intro W H) | ((with_reducible apply wpl_app (H.blk_own (n := 0) (c := 0) (size := 64) rfl (Nat.le_refl _) (by omega))); (case ht => exact Tryz.underlying70); (case hinfo => exact inf_97); (case hw | hs | hx => rfl); (case hm => exact Pull.here); (case hzs => rfl); (case hsz => decide); (case hr => exact hr.cons); (case h1 => exact bvs_oneCell _); (case h63 => (simp only [maxLen]; omega)); (case hbytes => omega); clear H; (try clear W); intro A1 n1 c1 W hn H hle1 htop1; obtain rfl := hn.out; clear hn))
  obtain ⟨b, rfl⟩ := own_some H.head (by omega)
  rw [Nat.zero_add] at H
  simpa using HK.out _ _ _ H
end
end Go.Proofs.YtdnioigcgggdbaaGreatDoor
namespace Go.Proofs.YtdnioigcgggdbaaGreatDoor
open Go.RowKit

/-- where a disk's parts lie. -/
structure Dv where
  gs : Nat
  cs : Nat
  gn : Nat
  cn : Nat
  aw : Option Addr
  m : Nat
  cw : Nat
/-- what a disk is. -/
structure Dd where
  su : List (List UInt8)
  no : List (List UInt8)
  wa : List (Nat × List UInt8)
  lf : Int
  bl : Bool
def wcell (x : Nat × List UInt8) : List Value := .int .i64 x.1 :: bvs x.2
def wcells (l : List (Nat × List UInt8)) : List Value := (l.map wcell).flatten
structure DOk (v : Dv) (d : Dd) : Prop where
  n0 : 0 < d.su.length
  n1 : d.su.length ≤ 4096
  nn : d.no.length = d.su.length
  sl : ∀ s ∈ d.su, s.length = 64
  nl : ∀ s ∈ d.no, s.length = 64
  wl : ∀ x ∈ d.wa, x.1 < d.su.length ∧ x.2.length = 64
  m : v.m = d.wa.length
  l1 : -9223372036854775808 ≤ d.lf
  l2 : d.lf ≤ 9223372036854775807
theorem wcells_nil : wcells [] = [] := rfl
def dkL (g : Nat) (v : Dv) (d : Dd) : List Ent :=
  [blk g [.slice (some ⟨v.gs, 0, none⟩) d.su.length v.cs, .slice (some ⟨v.gn, 0, none⟩) d.su.length v.cn, .slice v.aw v.m v.cw, .int .i64 d.lf, .bool d.bl] 94,
   ownE 97 64 (.slice (some ⟨v.gs, 0, none⟩) d.su.length v.cs) d.su.length (bvs d.su.flatten),
   ownE 97 64 (.slice (some ⟨v.gn, 0, none⟩) d.su.length v.cn) d.su.length (bvs d.no.flatten),
   ownE 101 65 (.slice v.aw v.m v.cw) v.m (wcells d.wa)]
def dkE (g : Nat) (v : Dv) (d : Dd) : Ent := packE (dkL g v d) (DOk v d)
section
variable {W : World} {L L' L0 : List Ent} {R : Ending → World → Prop} {g : Nat} {v : Dv} {d : Dd}
theorem dk_open (H : Holds W (dkE g v d :: L)) : DOk v d ∧ Holds W (blk g [.slice (some ⟨v.gs, 0, none⟩) d.su.length v.cs, .slice (some ⟨v.gn, 0, none⟩) d.su.length v.cn, .slice v.aw v.m v.cw, .int .i64 d.lf, .bool d.bl] 94 ::
    ownE 97 64 (.slice (some ⟨v.gs, 0, none⟩) d.su.length v.cs) d.su.length (bvs d.su.flatten) :: ownE 97 64 (.slice (some ⟨v.gn, 0, none⟩) d.su.length v.cn) d.su.length (bvs d.no.flatten) :: ownE 101 65 (.slice v.aw v.m v.cw) v.m (wcells d.wa) :: L) := H.unpack
theorem dk_shut (v : Dv) (d : Dd) (H : Holds W (blk g [.slice (some ⟨v.gs, 0, none⟩) d.su.length v.cs, .slice (some ⟨v.gn, 0, none⟩) d.su.length v.cn, .slice v.aw v.m v.cw, .int .i64 d.lf, .bool d.bl] 94 ::
    ownE 97 64 (.slice (some ⟨v.gs, 0, none⟩) d.su.length v.cs) d.su.length (bvs d.su.flatten) :: ownE 97 64 (.slice (some ⟨v.gn, 0, none⟩) d.su.length v.cn) d.su.length (bvs d.no.flatten) :: ownE 101 65 (.slice v.aw v.m v.cw) v.m (wcells d.wa) :: L)) (ho : DOk v d) : Holds W (dkE g v d :: L) :=
  Holds.pack (l := dkL g v d) H ho (by intro e he; simp only [dkL, List.mem_cons, List.not_mem_nil, or_false] at he; rcases he with rfl | rfl | rfl | rfl <;> rfl)
/-- a disk whose sectors are all sure. -/
def dnew (l : List (List UInt8)) : Dd := ⟨l, l, [], -1, false⟩
set_option maxRecDepth 100000 in
set_option maxHeartbeats 1000000 in
theorem of_k {gs cs n : Nat} {l : List (List UInt8)} (hln : l.length = n) (H : Holds W (ownE 97 64 (.slice (some ⟨gs, 0, none⟩) n cs) n (bvs l.flatten) :: L)) (h0 : 0 < n) (h1 : n ≤ 4096) (hl : ∀ s ∈ l, s.length = 64)
    (k : ∀ g v w', Holds w' (dkE g v (dnew l) :: L) → R (.returned (.pointer (some ⟨g, 0, none⟩))) w') :
    Calls Tryz.prog 33 #[.slice (some ⟨gs, 0, none⟩) n cs] W R := by
  subst hln
  have HK := Lib.hid k; clear k
  have Hl := Lib.hid hl
  clear hl
  go_enter Tryz.func33, Tryz.ntmps33
  go_wp2_with (first | ((with_reducible apply clone_k H); (case hr => exact gives_own List.mem_cons_self rfl); (case h0 => assumption); (case hn => omega); clear H; (try clear W); intro gn cn W H))
  refine HK.out _ ⟨gs, cs, gn, cn, none, 0, 0⟩ _ (dk_shut _ _ (Reord.use ((H.alloc _ _).add_nil 101 65) (by dsimp only [dnew]; rw [wcells_nil]; ((repeat (with_reducible apply Reord.cons; (case p => (with_reducible repeat first | exact Pull.here | apply Pull.there)))); repeat (with_reducible exact Reord.rest)))) ⟨h0, h1, rfl, Hl.out, Hl.out, by simp [dnew], rfl, by simp [dnew], by simp [dnew]⟩)
set_option maxRecDepth 100000 in
set_option maxHeartbeats 1000000 in
theorem new_no (n : Int) (hn : n < 1 ∨ 4096 < n) (H : Holds W L) (k : ∀ w', Holds w' L → R (.returned (.tuple #[.pointer none, .int .i64 1])) w') : Calls Tryz.prog 5 #[.int .i64 n] W R := by
  have HK := Lib.hid k; clear k
  rcases hn with hn | hn
  · go_enter Tryz.func5, Tryz.ntmps5
    go_wp2_with (first | go_big_skip )
    exact HK.out _ H
  · have h2 : ¬ n < 1 := by omega
    go_enter Tryz.func5, Tryz.ntmps5
    go_wp2_with (first | go_big_skip )
    exact HK.out _ H
def zsec : List UInt8 := List.replicate 64 0
def zcells : List Value := bvs zsec
theorem inf_zsec : (Tryz.prog.info? 97).map (fun i => (i.zero, i.size, i.bytes)) = some (some (.agg zcells.toArray), 64, 64) := by kernel_rfl
theorem flat_rep (n : Nat) : bvs (List.replicate n zsec).flatten = List.replicate (n * 64) (bv 0) := by
  induction n with
  | zero => rfl
  | succ n ih => rw [List.replicate_succ, List.flatten_cons, bvs_append, ih, show bvs zsec = List.replicate 64 (bv 0) from by unfold zsec bvs; rw [List.map_replicate], List.replicate_append_replicate]; congr 1; omega
theorem made_rep' (s N : Nat) (z : Value) (hs : 0 < s) : (madeCells (List.replicate s z).toArray N).toList = List.replicate N z := by
  unfold madeCells
  simp only [List.size_toArray, List.length_replicate]
  apply List.ext_getElem
  · simp
  · intro i h1 h2
    simp [Nat.mod_lt i hs]
theorem made_z (n : Nat) : (madeCells zcells.toArray (n * 64)) = (bvs (List.replicate n zsec).flatten).toArray := by
  apply Array.ext'
  rw [flat_rep, show zcells = List.replicate 64 (bv 0) from by unfold zcells zsec bvs; rw [List.map_replicate], made_rep' _ _ _ (by omega)]
theorem zflat_len (n : Nat) : (bvs (List.replicate n zsec).flatten).length = n * 64 := by rw [flat_rep, List.length_replicate]
set_option maxRecDepth 100000 in
set_option maxHeartbeats 1000000 in
theorem new_k (n : Nat) (h0 : 0 < n) (h1 : n ≤ 4096) (H : Holds W L) (k : ∀ g v w', Holds w' (dkE g v (dnew (List.replicate n zsec)) :: L) → R (.returned (.tuple #[.pointer (some ⟨g, 0, none⟩), .int .i64 0])) w') :
    Calls Tryz.prog 5 #[.int .i64 n] W R := by
  have HK := Lib.hid k; clear k
  have h2 : ¬ (n : Int) < 1 := by omega
  have h3 : ¬ (4096 : Int) < n := by omega
  have hmk : ∀ W, (Instr.makeSlice 70 (.int .i64 (n : Int)) (.int .i64 (n : Int))).run Tryz.prog W = .ok (.slice (some ⟨W.heap.size, 0, none⟩) n n) (W.alloc (.cells (bvs (List.replicate n zsec).flatten).toArray 97)) := fun W => by
    have := run_mkR (P := Tryz.prog) Tryz.underlying70 inf_zsec n n (Nat.le_refl _) (by omega) (by omega) W
    rw [this]
    have e : (Value.agg zcells.toArray).cells = zcells.toArray := rfl
    rw [e, made_z]
  go_enter Tryz.func5, Tryz.ntmps5
  go_wp2_with (first | ((with_reducible refine wpl_absorb H ?_); clear H; (first  | generalize W.heap.size = q0); (try clear W); intro W H) )
  replace H := H.blk_own (n := n) (c := n) (size := 64) (zflat_len n) (Nat.le_refl _) (by omega)
  rw [List.take_of_length_le (Nat.le_of_eq (zflat_len n))] at H
  go_wp2_with (first | ((with_reducible apply of_k (List.length_replicate (a := zsec)) H); (case h0 => assumption); (case h1 => assumption); (case hl => exact fun s hs => by rw [List.eq_of_mem_replicate hs]; rfl); clear H; (try clear W); intro g v W H))
  exact HK.out _ _ _ H
theorem size_sec : (Tryz.prog.info? 97).map (·.size) = some 64 := by kernel_rfl
theorem flat_len {l : List (List UInt8)} (hl : ∀ s ∈ l, s.length = 64) : (bvs l.flatten).length = l.length * 64 := by
  rw [bvs_length]
  induction l with
  | nil => rfl
  | cons s l ih => rw [List.flatten_cons, List.length_append, ih (fun x hx => hl x (.tail _ hx)), hl s (.head _), List.length_cons]; omega
theorem setL_all {xs ys : List Value} (h : ys.length = xs.length) : setL xs 0 ys = ys := by
  rw [setL_eq _ _ _ (by omega), List.take_zero, List.nil_append, Nat.zero_add, h, List.drop_length, List.append_nil]
/-- all is sure as it is read. -/
def Dd.settle (d : Dd) : Dd := ⟨d.no, d.no, [], d.lf, d.bl⟩
set_option maxRecDepth 100000 in
set_option maxHeartbeats 1000000 in
theorem settle_k (H : Holds W L) (hm : Pull (dkE g v d) L L0) (k : ∀ v' w', Holds w' (dkE g v' d.settle :: L0) → R (.returned (.tuple #[])) w') :
    Calls Tryz.prog 52 #[.pointer (some ⟨g, 0, none⟩)] W R := by
  obtain ⟨ho, H⟩ := dk_open (H.pull hm)
  clear hm
  have HK := Lib.hid k; clear k
  obtain ⟨gs, cs, gn, cn, aw, m, cw⟩ := v
  obtain ⟨su, no, wa, lf, bl⟩ := d
  have h0 := ho.n0
  have h1 := ho.n1
  simp only at h0 h1
  have Ho := Lib.hid ho
  have hone := bvs_oneCell no.flatten
  have Hone := Lib.hid hone
  clear ho hone
  simp only at H
  generalize hn : su.length = n at *
  have Hn := Lib.hid hn
  clear hn
  go_enter Tryz.func52, Tryz.ntmps52
  go_wp2_with (first | go_big_skip )
  ((refine wp_region_J [8] H (by kernel_rfl) ?_); clear H; (try clear W); intro W H; (apply anyJ_takeP 0 (oi := Oper.mk _ _ _ _ _ _) rfl); (case hs | hf => kernel_rfl); (case hr | hF => kernel_rfl); (case hQ => exact fun _ _ _ h => h); (case H => first | exact .inr H ); (case hy => first | (apply yields_pure rfl; intro w; first | (go_simp; with_reducible rfl) )); (try simp only [Act.put, sA, sB, sC]); (apply anyJ_takeP 1 (oi := Oper.mk _ _ _ _ _ _) rfl); (case hs | hf => kernel_rfl); (case hr | hF => kernel_rfl); (case hQ => exact fun _ _ _ h => h); (case H => first | exact .inr H ); (case hy => first | (apply yields_pure rfl; intro w; first | (go_simp; with_reducible rfl) )); (try simp only [Act.put, sA, sB, sC]); (apply anyJ_takeP 2 (oi := Oper.mk _ _ _ _ _ _) rfl); (case hs | hf => kernel_rfl); (case hr | hF => kernel_rfl); (case hQ => exact fun _ _ _ h => h); (case H => first | exact .inr H ); (case hy => first | (apply yields_pure rfl; intro w; first | (go_simp; with_reducible rfl) )); (try simp only [Act.put, sA, sB, sC]); (apply anyJ_takeP 4 (oi := Oper.mk _ _ _ _ _ _) rfl); (case hs | hf => kernel_rfl); (case hr | hF => kernel_rfl); (case hQ => exact fun _ _ _ h => h); (case H => first | exact .inr H ); (case hy => first | (apply yields_pure rfl; intro w; first | (go_simp; with_reducible rfl) )); (try simp only [Act.put, sA, sB, sC]); (apply anyJ_takeP 5 (oi := Oper.mk _ _ _ _ _ _) rfl); (case hs | hf => kernel_rfl); (case hr | hF => kernel_rfl); (case hQ => exact fun _ _ _ h => h); (case H => first | exact .inr H ); (case hy => first | (apply yields_pure rfl; intro w; first | (go_simp; with_reducible rfl) )); (try simp only [Act.put, sA, sB, sC]); (apply anyJ_takeP 6 (oi := Oper.mk _ _ _ _ _ _) rfl); (case hs | hf => kernel_rfl); (case hr | hF => kernel_rfl); (case hQ => exact fun _ _ _ h => h); (case H => first | exact .inr H ); (case hy => first | (apply yields_pure rfl; intro w; first | (go_simp; with_reducible rfl) )); (try simp only [Act.put, sA, sB, sC]); (apply anyJ_take 3 (oi := Oper.mk _ _ _ _ _ _) rfl); (case hs | hf => kernel_rfl); (case hr | hc | hF => kernel_rfl); (case hQ => exact fun _ _ _ h => h); (case H => first | exact H ); (case hy => (first | ((apply yields_load); (case hs => exact sc _ rfl); (case hw | hx => rfl); (case hm => (with_reducible repeat first | exact mH)); (case hv => rfl)) )); (try simp only [Act.put, sA, sB, sC]); (apply anyJ_take 7 (oi := Oper.mk _ _ _ _ _ _) rfl); (case hs | hf => kernel_rfl); (case hr | hc | hF => kernel_rfl); (case hQ => exact fun _ _ _ h => h); (case H => first | exact H ); (case hy => (first | ((apply yields_load); (case hs => exact sc _ rfl); (case hw | hx => rfl); (case hm => (with_reducible repeat first | exact mH)); (case hv => rfl)) )); (try simp only [Act.put, sA, sB, sC]); (apply anyJ_one 8 (o := Oper.mk _ _ _ _ _ _)); (case hr => kernel_rfl); (case hi | hw => rfl); intro K hK; (first | ((with_reducible apply opw_copyO H); (case hs => exact size_sec); (case hu => exact Tryz.underlying70); (case hx | hy => rfl); (case hr => (first | (apply gives_own; (case h => (with_reducible repeat first | exact mH | apply mT)); (case hn => rfl)) )); (case h1 => exact Hone.out); (case hm => (with_reducible repeat first | exact Upd.here | apply Upd.there)); clear H; (try clear W); intro W H)); (refine hK.out _ _ ?_ ?_); (· first | exact .inl rfl ); clear hK K; (try simp only [Act.put, sA, sB, sC]); (apply anyJ_done (by kernel_rfl)))
  have ho := Ho.out
  obtain rfl := Hn.out
  rw [show Nat.min su.length su.length = su.length from Nat.min_self _, List.take_of_length_le (Nat.le_of_eq (by rw [flat_len ho.nl, ho.nn])), setL_all (by rw [flat_len ho.nl, flat_len ho.sl, ho.nn])] at H
  clear ho
  go_wp2_with (first | ((with_reducible apply wpl_store1 H); (case hs => exact sz_sc _ rfl); (case hw | hx => rfl); (case hy => (first | exact (rfl : _ = Value.slice _ _ _) )); (case hm => (with_reducible repeat first | exact Upd.here)); (case h1 => rfl); (case hk => exact Nat.le_of_ble_eq_true rfl); clear H; (try clear W); intro W H; simp only [setL, List.set_cons_zero, List.set_cons_succ] at H))
  have ho := Ho.out
  have e := ho.nn
  simp only at e
  go_end0
  refine HK.out ⟨gs, cs, gn, cn, none, 0, 0⟩ _ (dk_shut _ _ (Reord.use (H.add_nil 101 65) (by dsimp only [Dd.settle]; rw [wcells_nil, e]; ((repeat (with_reducible apply Reord.cons; (case p => (with_reducible repeat first | exact Pull.here | apply Pull.there)))); repeat (first | with_reducible exact Reord.rest | with_reducible apply Reord.drop)))) ⟨?_, ?_, rfl, ho.nl, ho.nl, ?_, rfl, ho.l1, ho.l2⟩)
  · simp only [Dd.settle, e]; exact h0
  · simp only [Dd.settle, e]; exact h1
  · intro x hx; cases hx
set_option maxRecDepth 100000 in
set_option maxHeartbeats 1000000 in
theorem len_k (H : Holds W L) (hm : Pull (dkE g v d) L L0) (k : ∀ w', Holds w' (dkE g v d :: L0) → R (.returned (.int .i64 (d.su.length : Int))) w') : Calls Tryz.prog 34 #[.pointer (some ⟨g, 0, none⟩)] W R := by
  obtain ⟨ho, H⟩ := dk_open (H.pull hm)
  clear hm
  have HK := Lib.hid k; clear k
  obtain ⟨gs, cs, gn, cn, aw, m, cw⟩ := v; obtain ⟨su, no, wa, lf, bl⟩ := d; have h0 := ho.n0; have h1 := ho.n1; simp only at h0 h1; have Ho := Lib.hid ho; clear ho; simp only at H
  go_enter Tryz.func34, Tryz.ntmps34
  go_wp2_with (first | ((with_reducible apply wpl_load H); (case hs => exact sc _ rfl); (case hw | hx => rfl); (case hm => (with_reducible repeat first | exact mH)); (case hv => rfl)) | ((with_reducible apply none_no H); (case hm => (with_reducible repeat first | exact mH)); (case hn => assumption); clear H; (try clear W); intro W H))
  exact HK.out _ (dk_shut _ _ H Ho.out)
set_option maxRecDepth 100000 in
set_option maxHeartbeats 1000000 in
theorem waits_k (H : Holds W L) (hm : Pull (dkE g v d) L L0) (k : ∀ w', Holds w' (dkE g v d :: L0) → R (.returned (.int .i64 (d.wa.length : Int))) w') : Calls Tryz.prog 62 #[.pointer (some ⟨g, 0, none⟩)] W R := by
  obtain ⟨ho, H⟩ := dk_open (H.pull hm)
  clear hm
  have HK := Lib.hid k; clear k
  obtain ⟨gs, cs, gn, cn, aw, m, cw⟩ := v; obtain ⟨su, no, wa, lf, bl⟩ := d; have h0 := ho.n0; have h1 := ho.n1; simp only at h0 h1; have Ho := Lib.hid ho; clear ho; simp only at H
  go_enter Tryz.func62, Tryz.ntmps62
  go_wp2_with (first | ((with_reducible apply wpl_load H); (case hs => exact sc _ rfl); (case hw | hx => rfl); (case hm => (with_reducible repeat first | exact mH)); (case hv => rfl)) | ((with_reducible apply none_no H); (case hm => (with_reducible repeat first | exact mH)); (case hn => assumption); clear H; (try clear W); intro W H))
  have e : m = wa.length := Ho.out.m
  have := HK.out _ (dk_shut _ _ H Ho.out)
  rw [← e] at this
  exact this
def Dd.fuse (d : Dd) (n : Int) : Dd := ⟨d.su, d.no, d.wa, n, false⟩
set_option maxRecDepth 100000 in
set_option maxHeartbeats 1000000 in
theorem fuse_k (n : Int) (hn1 : -9223372036854775808 ≤ n) (hn2 : n ≤ 9223372036854775807) (H : Holds W L) (hm : Pull (dkE g v d) L L0) (k : ∀ w', Holds w' (dkE g v (d.fuse n) :: L0) → R (.returned (.int .i64 0)) w') : Calls Tryz.prog 12 #[.pointer (some ⟨g, 0, none⟩), .int .i64 n] W R := by
  obtain ⟨ho, H⟩ := dk_open (H.pull hm)
  clear hm
  have HK := Lib.hid k; clear k
  obtain ⟨gs, cs, gn, cn, aw, m, cw⟩ := v; obtain ⟨su, no, wa, lf, bl⟩ := d; have h0 := ho.n0; have h1 := ho.n1; simp only at h0 h1; have Ho := Lib.hid ho; clear ho; simp only at H
  go_enter Tryz.func12, Tryz.ntmps12
  go_wp2_with (first | ((with_reducible apply wpl_store1 H); (case hs => exact sz_sc _ rfl); (case hw | hx => rfl); (case hy => (first | exact (rfl : _ = Value.int _ _) | exact (rfl : _ = Value.bool _) )); (case hm => (with_reducible repeat first | exact Upd.here)); (case h1 => rfl); (case hk => exact Nat.le_of_ble_eq_true rfl); clear H; (try clear W); intro W H; simp only [setL, List.set_cons_zero, List.set_cons_succ] at H) | ((with_reducible apply none_no H); (case hm => (with_reducible repeat first | exact mH)); (case hn => assumption); clear H; (try clear W); intro W H))
  have ho := Ho.out
  exact HK.out _ (dk_shut ⟨gs, cs, gn, cn, aw, m, cw⟩ _ H ⟨ho.n0, ho.n1, ho.nn, ho.sl, ho.nl, ho.wl, ho.m, hn1, hn2⟩)
def Dd.spend (d : Dd) : Dd := ⟨d.su, d.no, d.wa, spentL d.lf d.bl, spentB d.lf d.bl⟩
theorem spentL_le {lf : Int} {bl : Bool} (h1 : -9223372036854775808 ≤ lf) (h2 : lf ≤ 9223372036854775807) : -9223372036854775808 ≤ spentL lf bl ∧ spentL lf bl ≤ 9223372036854775807 := by
  unfold spentL; split <;> omega
def Dd.sync (d : Dd) : Dd × Int := if spentB d.lf d.bl then (d.spend, 9) else (d.spend.settle, 0)
set_option maxRecDepth 100000 in
set_option maxHeartbeats 1000000 in
theorem sync_k (H : Holds W L) (hm : Pull (dkE g v d) L L0) (k : ∀ v' w', Holds w' (dkE g v' d.sync.1 :: L0) → R (.returned (.int .i64 d.sync.2)) w') : Calls Tryz.prog 43 #[.pointer (some ⟨g, 0, none⟩)] W R := by
  obtain ⟨ho, H⟩ := dk_open (H.pull hm)
  clear hm
  have HK := Lib.hid k; clear k
  unfold Dd.sync at HK
  have hspo := ho
  obtain ⟨gs, cs, gn, cn, aw, m, cw⟩ := v
  have h0 := ho.n0
  have h1 := ho.l1
  have h2 := ho.l2
  have hb := spentL_le (bl := d.bl) h1 h2
  have Hsp : Hid (DOk ⟨gs, cs, gn, cn, aw, m, cw⟩ d.spend) := Lib.hid ⟨ho.n0, ho.n1, ho.nn, ho.sl, ho.nl, ho.wl, ho.m, hb.1, hb.2⟩
  clear ho hspo hb
  cases hs : spentB d.lf d.bl
  all_goals
    have Hs := Lib.hid hs
    rw [hs] at HK
    simp only [Bool.false_eq_true, if_false, if_true] at HK
    clear hs
    go_enter Tryz.func43, Tryz.ntmps43
    go_wp2_with (first | ((with_reducible apply none_no H); (case hm => (with_reducible repeat first | exact mH)); (case hn => assumption); clear H; (try clear W); intro W H) | ((with_reducible apply spent_k H); (case h1 => assumption); (case h2 => assumption); (case hm => exact Upd.here); clear H; (try clear W); intro W H; replace H := dk_shut (g := g) ⟨gs, cs, gn, cn, aw, m, cw⟩ d.spend H Hsp.out; rw [Hs.out]) | ((with_reducible apply settle_k H); (case hm => exact Pull.here); clear H; (try clear W); intro v2 W H))
    exact HK.out _ _ H
end
end Go.Proofs.YtdnioigcgggdbaaGreatDoor
