/-
  stores: Add behind a fuse; slices of headers.
-/
import Derived.Test.YtdnioigcgggdbaaStM
import Derived.Test.YtdnioigcgggdbaaOpN
set_option linter.unusedVariables false
set_option linter.unusedSimpArgs false
namespace Go.Proofs.Ytdnioigcgggdbaa
open Go.RowKit
theorem anyJ_twoB {P : Program} {ops : Array Oper} {Q : Exit → Act → World → Prop} {md : Region.Mode} {L : List Ent} {F : List Nat} (i j : Nat) {o o2 : Oper} {fuel : Nat} {listed : Array Bool} {a : Act} {w : World} (hr : Region.ready md ops listed = [i, j]) (hi : ops[i]? = some o) (hw : Region.wanted o (yielded ops a.tmps) = true)
    (hi2 : ops[j]? = some o2) (hw2 : Region.wanted o2 (yielded ops a.tmps) = true)
    (k1 : ∀ K : Act → World → Prop, Hid (∀ a' w', (F.contains i = true ∨ Holds w' L) → wpAnyJ P md ops Q F L fuel (listed.setIfInBounds i true) a' w' → K a' w') → Oper.wp P o a w K Q)
    (k2 : ∀ K : Act → World → Prop, Hid (∀ a' w', (F.contains j = true ∨ Holds w' L) → wpAnyJ P md ops Q F L fuel (listed.setIfInBounds j true) a' w' → K a' w') → Oper.wp P o2 a w K Q) : wpAnyJ P md ops Q F L (fuel + 1) listed a w :=
  anyJ_two i j hr hi hw hi2 hw2 k1 k2
theorem runS_wa : ∀ (l : List (Option (Nat × List UInt8))) (d : Dd), (runS l d).1.wa.length ≤ d.wa.length + l.length
  | [], d => Nat.le_refl _
  | none :: l, d => by
    have h1 := sync_wa d
    have h2 := runS_wa l d.sync.1
    rw [runS, List.length_cons]
    split <;> omega
  | some x :: l, d => by
    have h1 := write_wa d (x.1 : Int) x.2
    have h2 := runS_wa l (d.write (x.1 : Int) x.2).1
    rw [runS, List.length_cons]
    split <;> omega
theorem wrs_len : ∀ (l : List (List UInt8)) (n : Nat), (wrs n l).length = l.length
  | [], _ => rfl
  | x :: l, n => by rw [wrs, List.length_cons, List.length_cons, wrs_len l (n + 1)]
theorem stepsF_len (n : Nat) (F : List (List UInt8)) : (stepsF n F).length ≤ F.length + 3 := by
  unfold stepsF
  rw [List.length_cons, List.length_append, wrs_len, List.length_drop, List.length_append]
  split <;> simp <;> omega
theorem Kp.failS {d : Dd} {fr mn : Nat} {ls : List (List UInt8)} (h : Kp d fr mn ls) (hw : d.wa = []) (kept : List Bool) : Torn (failK d.su d.wa kept (min d.wa.length kept.length)) fr mn (sects 0 ls) := by
  obtain ⟨l0, h1 | h1, h2⟩ := h.fail kept
  · rw [← h1]; exact h2
  · exact absurd hw h1.1
/-- what is left of a disk behind an Add that may not have been let be. -/
structure Fused (d : Dd) (mn : Nat) (ls : List (List UInt8)) (b : List UInt8) (e : Int) : Prop where
  e09 : e = 0 ∨ e = 9
  len : d.su.length = d.no.length
  wa : d.wa.length ≤ 1000000
  left : ∀ kept : List Bool, ∃ l1, (l1 = ls ∨ (e = 0 ∧ l1 = ls ++ [b])) ∧ Torn (failK d.su d.wa kept (min d.wa.length kept.length)) 0 mn (sects 0 l1)
theorem fused {l : List (List UInt8)} {F : Int} {mn : Nat} {ls : List (List UInt8)} {b : List UInt8} (hC : Clean l 0 mn (sects 0 ls)) (hb : b.length ≤ 256) (hr : (sects 0 ls).length + secs b.length ≤ mn) :
    ∃ d' e, runS (stepsF (0 + (sects 0 ls).length) (frS (ls.length + 1) b)) ((dnew l).fuse F) = (d', e) ∧ Fused d' mn ls b e ∧ Outside 0 mn l d'.no := by
  obtain ⟨d', e, h1, h2, h3, h4, h5, h6, h7⟩ := steps_out (d := (dnew l).fuse F) (F := frS (ls.length + 1) b) rfl hC (frS_64 _ _) (by rw [frS_len]; exact secs_1 _) (by rw [frS_len]; exact secs_5 hb) (by rw [frS_len]; exact hr)
  refine ⟨d', e, h1, ⟨h2, h4, ?_, fun kept => ?_⟩, h5⟩
  · have := runS_wa (stepsF (0 + (sects 0 ls).length) (frS (ls.length + 1) b)) ((dnew l).fuse F)
    rw [h1] at this
    have h8 := stepsF_len (0 + (sects 0 ls).length) (frS (ls.length + 1) b)
    rw [frS_len] at h8
    have h9 := secs_5 hb
    simp only [Dd.fuse, dnew, List.length_nil] at this
    omega
  · rcases h2 with rfl | rfl
    · obtain ⟨k1, k2, x, k3, k4⟩ := h6 rfl
      rw [k3]
      rcases failK_one d'.su (0 + (sects 0 ls).length) x kept with hk | hk
      · refine ⟨ls, .inl rfl, ?_⟩
        rw [List.length_singleton, hk]
        exact k2
      · refine ⟨ls ++ [b], .inr ⟨rfl, rfl⟩, ?_⟩
        rw [List.length_singleton, hk, ← k4, sects_snoc0]
        exact k1.torn
    · have := h7 rfl ⟨hC.torn, fun y hy => by cases hy⟩
      exact ⟨ls, .inl rfl, failK_torn this.1 this.2 _⟩
section
variable {W : World} {L L' L0 L1 : List Ent} {R : Ending → World → Prop} {p g : Nat} {v : Sv} {dv : Dv} {A : Option Addr} {m c : Nat} {b : List UInt8} {l ls : List (List UInt8)} {F : Int}
theorem sadd_9 (mn : Nat) (ls : List (List UInt8)) (hC : Clean l 0 mn (sects 0 ls)) (hm6 : m ≤ 256) (hroom : (sects 0 ls).length + secs m ≤ mn) (G : Gives L0 fun w => Rd w 1 A m c (bvs b)) (H : Holds W L) (hm : Pull (stE p g v (sdOf 0 mn ls)) L L1) (hm2 : Pull (dkE g dv ((dnew l).fuse F)) L1 L0)
    (k : ∀ d' e s' v' dv' w', Fused d' mn ls b e → Outside 0 mn l d'.no → Holds w' (stE p g v' s' :: dkE g dv' d' :: L0) → R (.returned (.int .i64 e)) w') :
    Calls Try.prog 11 #[.pointer (some ⟨p, 0, none⟩), .slice A m c] W R := by
  have H1 := (H.pull hm).perm (hm2.perm.cons _)
  have hbl := (G W H1.tail.tail).blen
  obtain ⟨d', e, e1, e2, e3⟩ := fused (F := F) (b := b) hC (by omega) (by rw [hbl]; exact hroom)
  have hle := hC.le
  refine sadd_yes (s := sdOf 0 mn ls) hm6 (by simp only [sdOf]; omega) (by simp [Dd.fuse, dnew]) (by simp only [sdOf, Dd.fuse, dnew]; omega) G H hm hm2 e1 (fun he v' dv' w' h => ?_) (fun he dv' w' h => ?_)
  · have := k d' e _ v' dv' w' e2 e3 h
    rw [he] at this
    exact this
  · exact k d' e _ v dv' w' e2 e3 h
theorem fuse_n {d : Dd} (hn1 : -9223372036854775808 ≤ F) (hn2 : F ≤ 9223372036854775807) (H : Holds W L) (hm : Pull (dkE g dv d) L L0) (k : ∀ w', Holds w' (dkE g dv (d.fuse F) :: L0) → R (.returned (.int .i64 0)) w') : Calls Try.prog 24 #[.pointer (some ⟨g, 0, none⟩), .int .i64 F] W R := fuse_k F hn1 hn2 H hm k
end
theorem gives_takeO {L : List Ent} {e : TypeId} {A : Option Addr} {n c q : Nat} {xs : List Value} (h : ownE e 1 (.slice A n c) n xs ∈ L) (hq : q ≤ n) : Gives L fun w => Rd w 1 A q c (xs.take q) := fun w H => by
  have hr := gives_own h rfl w H
  have hlen := hr.len
  refine ⟨Nat.le_trans hq hr.le, hr.top, by rw [List.length_take]; omega, hr.nil, fun h0 => ?_⟩
  obtain ⟨b, o, h1, h2⟩ := hr.at_ (by omega)
  refine ⟨b, o, h1, fun j hj => ?_⟩
  rw [h2 j (by omega), List.getElem?_take, if_pos (by omega)]
theorem run_sliceQ {w : World} {b o m d q : Nat} (hq : q ≤ d) :
    (Instr.sliceAt 25 (.slice (some ⟨b, o, none⟩) m d) none (some (.int .i64 (q : Int))) none).run Try.prog w = .ok (.slice (some ⟨b, o, none⟩) q d) w := by
  have hu : Try.prog.underlying 25 = some (.slice (Try.prog.elem 25)) := by kernel_rfl
  have hs : ∀ w, (sizeOf (Try.prog.elem 25)).run Try.prog w = .ok 1 w := fun w => by kernel_rfl
  rw [run_sliceAt_slice _ _ _ _ _ _ hu, run_slice_h _ _ _ _ _ hu _ _ (by omega) (by omega), hs]
  simp only [Result.andThen, sliced, Int.toNat_natCast, Nat.sub_zero, Nat.zero_mul]
  simp [Addr.add]
theorem yields_sliceQ {J : World → Prop} {ops : Array Oper} {a : Act} {dst : Option Tmp} {x t : Operand} {ty : TypeId} {pos : String} {after : Array Edge} {gd : Option (Nat × Bool)} (q : Nat) (hw : Region.wanted ⟨dst, .slice 25 x none (some t) none, ty, pos, after, gd⟩ (yielded ops a.tmps) = true) {b o m d : Nat}
    (hx : a.eval x = .slice (some ⟨b, o, none⟩) m d) (ht : a.eval t = .int .i64 (q : Int)) (hq : q ≤ d) : YieldsIf Try.prog ops J ⟨dst, .slice 25 x none (some t) none, ty, pos, after, gd⟩ (.slice (some ⟨b, o, none⟩) q d) a := .inl ⟨hw, fun w _ => by
  unfold execOp
  simp only [hx, ht, Option.map_none, Option.map_some, Sem.run_bind, run_sliceQ hq, Result.andThen_ok, Sem.run_pure]⟩
end Go.Proofs.Ytdnioigcgggdbaa
