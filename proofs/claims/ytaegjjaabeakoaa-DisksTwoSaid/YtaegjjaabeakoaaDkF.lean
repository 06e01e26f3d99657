/-
  disks: what the laws' walks share.
-/
import Derived.Test.YtaegjjaabeakoaaDkE
set_option linter.unusedVariables false
set_option linter.unusedSimpArgs false
namespace Go.Proofs.Ytaegjjaabeakoaa
open Go.RowKit

section
variable {W : World} {L L' L0 : List Ent} {R : Ending → World → Prop}
theorem rdW_base {W0 : World} {A : Option Addr} {n c : Nat} {hs : List Value} {ws : List (UInt8 × List UInt8)} (hr : Rd W0 2 A n c hs) (hl : ws.length = n) (hnum : ∀ (j : Nat) (x : UInt8 × List UInt8), ws[j]? = some x → hs[j * 2]? = some (Value.int .u8 ((x.1.toNat : Nat) : Int)))
    (hat : ∀ (j : Nat) (x : UInt8 × List UInt8), ws[j]? = some x → ∃ (B : Option Addr) (m k : Nat), hs[j * 2 + 1]? = some (Value.slice B m k) ∧ Rd W0 1 B m k (bvs x.2)) (L : List Ent) (hm : base W0 ∈ L) : RdW L A n c hs ws :=
  ⟨fun w H => hr.ext (H.all _ hm), hl, hnum, fun j x hx => by
    obtain ⟨B, m, k, h1, h2⟩ := hat j x hx
    exact ⟨B, m, k, h1, fun w H => h2.ext (H.all _ hm)⟩⟩
theorem sameL_yes {A1 A2 : Option Addr} {n1 c1 n2 c2 : Nat} {q1 q2 : List (Option Addr × Nat)} {l1 l2 : List (List UInt8)} (H : Holds W L) (h1 : lsE A1 n1 c1 q1 l1 ∈ L) (h2 : lsE A2 n2 c2 q2 l2 ∈ L) (he : l1 = l2) (k : ∀ w', Holds w' L → R (.returned (.bool true)) w') :
    Calls Try.prog 22 #[.slice A1 n1 c1, .slice A2 n2 c2] W R :=
  sameL_k (rdL_ls H h1) (rdL_ls H h2) H fun w' h => by rw [decide_eq_true he]; exact k w' h
theorem twin_b {A : Option Addr} {c : Nat} {q : List (Option Addr × Nat)} {ls : List (List UInt8)} (H : Holds W L) (h1 : lsE A 5 c q ls ∈ L) (h64 : ∀ s ∈ ls, s.length = 64) (k : ∀ b c q w', Holds w' (lsE (some ⟨b, 0, none⟩) 5 c q ls :: L) → R (.returned (.slice (some ⟨b, 0, none⟩) 5 c)) w') :
    Calls Try.prog 25 #[.slice A 5 c] W R := by
  refine twinL_k (rdL_ls H h1) (by omega) (fun s hs => by rw [h64 s hs]; omega) H fun A c q w' H' => ?_
  obtain ⟨hn, H2⟩ := ls_open H'
  obtain ⟨b, rfl⟩ := own_some (H2.all _ (.head _)) (by omega)
  exact k b c q w' H'
theorem twin_l {A : Option Addr} {n c : Nat} {q : List (Option Addr × Nat)} {ls : List (List UInt8)} (H : Holds W L) (h1 : lsE A n c q ls ∈ L) (hn : n ≤ 1000000) (h64 : ∀ s ∈ ls, s.length ≤ 1000000) (k : ∀ A c q w', Holds w' (lsE A n c q ls :: L) → R (.returned (.slice A n c)) w') :
    Calls Try.prog 25 #[.slice A n c] W R := twinL_k (rdL_ls H h1) hn h64 H k
theorem wrap_u8m (N : UInt8) (m : Int) (hm : 0 < m) (k : Nat) (hk : m = (k : Int)) : (IntKind.i64.wrap ((N.toNat : Nat) : Int)).tmod m = ((N.toNat % k : Nat) : Int) := by
  have h := N.toNat_lt
  subst hk
  rw [show IntKind.i64.wrap ((N.toNat : Nat) : Int) = ((N.toNat : Nat) : Int) from by simp [IntKind.wrap, IntKind.bits, IntKind.signed]; omega, Int.tmod_eq_emod_of_nonneg (by omega)]
  omega
theorem wrap64_u8 (N : UInt8) (m : Int) (hm : 0 < m) (k : Nat) (hk : m = (k : Int)) : (wrap64 ((N.toNat : Nat) : Int)).tmod m = ((N.toNat % k : Nat) : Int) := by
  have h := N.toNat_lt
  subst hk
  rw [show wrap64 ((N.toNat : Nat) : Int) = ((N.toNat : Nat) : Int) from by unfold wrap64; omega, Int.tmod_eq_emod_of_nonneg (by omega)]
  omega
theorem setL_bv {s : List UInt8} {k : Nat} {y : UInt8} (h : k < s.length) : setL (bvs s) k [Value.int .u8 ((y.toNat : Nat) : Int)] = bvs (s.set k y) := by
  rw [setL_eq _ _ _ (by rw [bvs_length, List.length_singleton]; omega), List.set_eq_take_append_cons_drop, if_pos h, List.length_singleton, bvs_append, bvs_take, ← bvs_drop, List.append_assoc]
  rfl
theorem zip_rv_set {q : List (Option Addr × Nat)} {ls : List (List UInt8)} {j : Nat} {s s' : List UInt8} (hs : ls[j]? = some s) (hl : s'.length = s.length) : List.zipWith rv q (ls.set j s') = List.zipWith rv q ls := by
  apply List.ext_getElem?
  intro i
  rw [List.getElem?_zipWith, List.getElem?_zipWith, List.getElem?_set]
  by_cases h : j = i
  · subst h
    rw [if_pos rfl, if_pos (List.getElem?_eq_some_iff.1 hs).1, hs]
    cases q[j]? with
    | none => rfl
    | some x => simp only [rv, hl]
  · rw [if_neg h]
theorem left_none {g : Nat} {v : Dv} {d : Dd} (H : Holds W L) (hm : Pull (dkE g v d) L L0) (hlen : d.wa.length ≤ 1000000)
    (k : ∀ g2 v2 w', Holds w' (dkE g2 v2 (dnew d.su) :: dkE g v d :: L0) → R (.returned (.pointer (some ⟨g2, 0, none⟩))) w') :
    Calls Try.prog 21 #[.pointer (some ⟨g, 0, none⟩), .slice none 0 0] W R :=
  left_k H hm (gives_nil _) hlen fun g2 v2 w' h => k g2 v2 w' (by rw [show min d.wa.length ([] : List Bool).length = 0 from Nat.min_zero _] at h; exact h)
/-- a row's first cell: the value of an entry of headers. -/
theorem all_b {g : Nat} {v : Dv} {d : Dd} (h5 : d.su.length = 5) (H : Holds W L) (hm : Pull (dkE g v d) L L0) (k : ∀ b c q w', Hid (∀ j, j < 5 → ∃ x y, (List.zipWith rv q d.no)[j]? = some (.slice x 64 y)) → Holds w' (lsE (some ⟨b, 0, none⟩) 5 c q d.no :: dkE g v d :: L0) → R (.returned (.slice (some ⟨b, 0, none⟩) 5 c)) w') :
    Calls Try.prog 20 #[.pointer (some ⟨g, 0, none⟩)] W R := by
  have hl := (dk_ok H hm.mem).nl
  refine all_l h5 H hm fun A c q w' H' => ?_
  obtain ⟨hn, H2⟩ := ls_open H'
  obtain ⟨b, rfl⟩ := own_some (H2.all _ (.head _)) (by omega)
  have hq := rows_len H2 (.tail _ (.head _))
  refine k b c q w' (Lib.hid fun j hj => ?_) H'
  have hjl : j < d.no.length := by omega
  refine ⟨q[j].1, q[j].2, ?_⟩
  rw [List.getElem?_zipWith, List.getElem?_eq_getElem hjl, List.getElem?_eq_getElem (show j < q.length by omega)]
  simp only [rv, hl _ (List.getElem_mem hjl)]
theorem gives_head {b n c : Nat} {q : List (Option Addr × Nat)} {ls : List (List UInt8)} (h : lsE (some ⟨b, 0, none⟩) n c q ls ∈ L) : Gives L fun w => Rd w 1 (some ⟨b, 0, none⟩) n c (List.zipWith rv q ls) := fun w H => Rd.of_own ((H.all _ h).2.all _ (.head _))
theorem wpl_loadV0 {P : Program} {ops : Array Oper} {rest : List Oper} {a : Act} {w : World} {Q : Exit → Act → World → Prop} {dst : Option Tmp} {T : TypeId} {x : Operand} {ty : TypeId} {pos : String} {after : Array Edge} {gd : Option (Nat × Bool)} (H : Holds w L) (hw : Region.wanted ⟨dst, .load T x, ty, pos, after, gd⟩ (yielded ops a.tmps) = true) {b j : Nat} (hx : a.eval x = .pointer (some ⟨b, j, none⟩)) {n cap : Nat} {vs : List Value}
    (hm : Gives L fun w => Rd w 1 (some ⟨b, 0, none⟩) n cap vs) (hs : Scalar P T) (hj : j < n) {v : Value} (hv : vs[j]? = some v) (h : wpList P ops Q rest (a.put dst v) w) : wpList P ops Q (⟨dst, .load T x, ty, pos, after, gd⟩ :: rest) a w :=
  wpl_loadV H hw (o := 0) (j := j) (by rw [hx, Nat.zero_add]) hm hs hj hv h
theorem yields_loadV0 {P : Program} {ops : Array Oper} {a : Act} {dst : Option Tmp} {T : TypeId} {x : Operand} {ty : TypeId} {pos : String} {after : Array Edge} {gd : Option (Nat × Bool)} (hw : Region.wanted ⟨dst, .load T x, ty, pos, after, gd⟩ (yielded ops a.tmps) = true) {b j : Nat} (hx : a.eval x = .pointer (some ⟨b, j, none⟩)) {n cap : Nat} {vs : List Value}
    (hm : Gives L fun w => Rd w 1 (some ⟨b, 0, none⟩) n cap vs) (hs : Scalar P T) (hj : j < n) {v : Value} (hv : vs[j]? = some v) : YieldsIf P ops (fun w => Holds w L) ⟨dst, .load T x, ty, pos, after, gd⟩ v a :=
  yields_loadV hw (o := 0) (j := j) (by rw [hx, Nat.zero_add]) hm hs hj hv
theorem xor_twice (x y : UInt8) : (x ^^^ y) ^^^ y = x := by
  rw [UInt8.xor_assoc, UInt8.xor_self, UInt8.xor_zero]
theorem turn_no' (d : Dd) (N M : Nat) (y : UInt8) : (d.turn N M y).no = d.no.set N ((d.no[N]?.getD []).set M (((d.no[N]?.getD [])[M]?.getD 0) ^^^ y)) := rfl
theorem turn_su (d : Dd) (N M : Nat) (y : UInt8) : (d.turn N M y).su = d.no.set N ((d.no[N]?.getD []).set M (((d.no[N]?.getD [])[M]?.getD 0) ^^^ y)) := rfl
theorem turn_turn (d : Dd) (N M : Nat) (y : UInt8) (hN : N < d.no.length) (hM : M < (d.no[N]?.getD []).length) : ((d.turn N M y).turn N M y).no = d.no := by
  rw [turn_no', turn_no', List.getElem?_set_self hN]
  simp only [Option.getD_some]
  rw [List.getElem?_set_self hM]
  simp only [Option.getD_some, List.set_set]
  rw [xor_twice]
  have e : (d.no[N]?.getD []).set M ((d.no[N]?.getD [])[M]?.getD 0) = d.no[N]?.getD [] := by
    apply List.ext_getElem?
    intro i
    rw [List.getElem?_set]
    split
    · rename_i h; subst h; rw [List.getElem?_eq_getElem hM]; rfl
    · rfl
  rw [e]
  apply List.ext_getElem?
  intro i
  rw [List.getElem?_set]
  split
  · rename_i h; subst h; rw [List.getElem?_eq_getElem hN]; rfl
  · rfl
end
end Go.Proofs.Ytaegjjaabeakoaa
