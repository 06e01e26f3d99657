/-
  disks: one contract for Write, and one for Sync, whatever comes.
  Rows of bytes, each the call's own, behind their headers: one entry for all of them.
  The reference's disk in memory: one entry, of the same disk as the program's.
-/
import Derived.Test.YtdnioigcgggdbaaGreatDoorDk6
import Derived.Test.YtdnioigcgggdbaaGreatDoorMaa
import Derived.Test.YtdnioigcgggdbaaGreatDoorMac
import Derived.Test.YtdnioigcgggdbaaGreatDoorMab
set_option linter.unusedVariables false
set_option linter.unusedSimpArgs false
namespace Go.Proofs.YtdnioigcgggdbaaGreatDoor
open Go.RowKit

theorem write_wa (d : Dd) (N : Int) (b : List UInt8) : (d.write N b).1.wa.length ≤ d.wa.length + 1 := by
  unfold Dd.write
  split
  · simp
  · split
    · simp [Dd.spend]
    · simp
theorem sync_wa (d : Dd) : d.sync.1.wa.length ≤ d.wa.length := by
  unfold Dd.sync
  split <;> simp [Dd.spend, Dd.settle]
section
variable {W : World} {L L' L0 : List Ent} {R : Ending → World → Prop} {g : Nat} {v : Dv} {d d' : Dd} {e : Int}
theorem dwrite_c {A : Option Addr} {m c : Nat} (N : Int) (b : List UInt8) (hz : d.write N b = (d', e)) (hlen : d.wa.length ≤ 1000000) (H : Holds W L) (hm : Pull (dkE g v d) L L0) (hr : Gives L0 fun w => Rd w 1 A m c (bvs b))
    (k : ∀ v' w', Holds w' (dkE g v' d' :: L0) → R (.returned (.int .i64 e)) w') :
    Calls Tryz.prog 18 #[.pointer (some ⟨g, 0, none⟩), .int .i64 N, .slice A m c] W R := by
  have hR := hr W (H.pull hm).tail
  have hbl := hR.blen
  have hc := hR.top
  have hmc := hR.le
  unfold maxLen at hc
  clear hR
  unfold Dd.write at hz
  by_cases h : N < 0 ∨ (d.su.length : Int) ≤ N ∨ 64 < b.length
  · rw [if_pos h] at hz
    cases hz
    exact write_no N (by omega) (by omega) hmc H hm fun w' h => k _ w' h
  · rw [if_neg h] at hz
    obtain ⟨n, rfl⟩ : ∃ n : Nat, N = n := ⟨N.toNat, by omega⟩
    cases hs : spentB d.lf d.bl with
    | true =>
      rw [hs, if_pos rfl] at hz
      cases hz
      exact write_spent n (by omega) (by omega) hs (by omega) hmc H hm fun w' h => k _ w' h
    | false =>
      rw [hs, if_neg (by decide), Int.toNat_natCast] at hz
      cases hz
      exact write_yes n (by omega) (by omega) hs hlen H hm hr fun v' w' h => k v' w' h
theorem dsync_c (hz : d.sync = (d', e)) (H : Holds W L) (hm : Pull (dkE g v d) L L0) (k : ∀ v' w', Holds w' (dkE g v' d' :: L0) → R (.returned (.int .i64 e)) w') : Calls Tryz.prog 43 #[.pointer (some ⟨g, 0, none⟩)] W R := by
  refine sync_k H hm fun v' w' h => ?_
  rw [hz] at h ⊢
  exact k v' w' h
end
end Go.Proofs.YtdnioigcgggdbaaGreatDoor
set_option linter.unusedVariables false
set_option linter.unusedSimpArgs false
namespace Go.Proofs.YtdnioigcgggdbaaGreatDoor
open Go.RowKit

/-- a row's header. -/
def rh (x : Option Addr × Nat) (s : List UInt8) : Value := .slice x.1 s.length x.2
def rwE (x : Option Addr × Nat) (s : List UInt8) : Ent := ownE 5 1 (rh x s) s.length (bvs s)
def rwsE (q : List (Option Addr × Nat)) (ls : List (List UInt8)) : Ent := packE (List.zipWith rwE q ls) (q.length = ls.length)
theorem zipS {α β γ : Type} (f : α → β → γ) {q : List α} {ls : List β} (hl : q.length = ls.length) {j : Nat} {x : α} {s : β} : List.zipWith f (q.set j x) (ls.set j s) = (List.zipWith f q ls).set j (f x s) := by
  apply List.ext_getElem?
  intro i
  rw [List.getElem?_zipWith, List.getElem?_set, List.getElem?_set, List.getElem?_set, List.getElem?_zipWith]
  by_cases h : j = i
  · subst h
    rw [if_pos rfl, if_pos rfl, if_pos rfl]
    by_cases hj : j < ls.length
    · rw [if_pos (by omega), if_pos hj, if_pos (by rw [List.length_zipWith]; omega)]
    · rw [if_neg (by omega), if_neg hj, if_neg (by rw [List.length_zipWith]; omega)]
  · rw [if_neg h, if_neg h, if_neg h]
theorem rwz_own {q : List (Option Addr × Nat)} {ls : List (List UInt8)} : ∀ e ∈ List.zipWith rwE q ls, e.own = true := by
  intro e he
  obtain ⟨j, hj⟩ := List.mem_iff_getElem?.1 he
  rw [List.getElem?_zipWith] at hj
  split at hj
  · cases hj; rfl
  · cases hj
section
variable {W : World} {L L' L0 : List Ent} {R : Ending → World → Prop} {q : List (Option Addr × Nat)} {ls : List (List UInt8)}
theorem rws_new (H : Holds W L) : Holds W (rwsE [] [] :: L) := Holds.pack (l := []) H rfl (by intro e he; cases he)
theorem rws_add {x : Option Addr × Nat} {s : List UInt8} (H : Holds W (rwE x s :: rwsE q ls :: L)) : Holds W (rwsE (q ++ [x]) (ls ++ [s]) :: L) := by
  have H1 := H.perm (List.Perm.swap _ _ _)
  obtain ⟨hl, H2⟩ := H1.unpack
  refine Holds.pack ?_ (by rw [List.length_append, List.length_append, hl]; rfl) rwz_own
  rw [List.zipWith_append hl]
  refine H2.perm ?_
  rw [List.append_assoc]
  exact .refl _
theorem rws_head {x : Option Addr × Nat} {s : List UInt8} (H : Holds W (rwsE (x :: q) (s :: ls) :: L)) : Holds W (rwE x s :: rwsE q ls :: L) := by
  obtain ⟨hl, H2⟩ := H.unpack
  have H3 := H2.perm (L' := List.zipWith rwE q ls ++ (rwE x s :: L)) List.perm_middle.symm
  have H4 : Holds W (rwsE q ls :: rwE x s :: L) := Holds.pack H3 (by simpa using hl) rwz_own
  exact H4.perm (List.Perm.swap _ _ _)
theorem rws_len (H : Holds W L) (h : rwsE q ls ∈ L) : q.length = ls.length := (H.all _ h).1
theorem rws_says {j : Nat} {x : Option Addr × Nat} {s : List UInt8} (h : (rwsE q ls).says W) (hq : q[j]? = some x) (hj : ls[j]? = some s) : Rd W 1 x.1 s.length x.2 (bvs s) :=
  Rd.of_own (h.2.all (rwE x s) (List.mem_of_getElem? (i := j) (by rw [List.getElem?_zipWith, hq, hj])))
theorem gives_rws {j : Nat} {x : Option Addr × Nat} {s : List UInt8} (h : rwsE q ls ∈ L) (hq : q[j]? = some x) (hj : ls[j]? = some s) : Gives L fun w => Rd w 1 x.1 s.length x.2 (bvs s) :=
  fun w H => rws_says (H.all _ h) hq hj
theorem set_same {α : Type} {l : List α} {j : Nat} {x : α} (h : l[j]? = some x) : l.set j x = l := by
  apply List.ext_getElem?
  intro i
  rw [List.getElem?_set]
  split
  · rename_i e; subst e; rw [if_pos (List.getElem?_eq_some_iff.1 h).1, h]
  · rfl
theorem rws_open {j : Nat} {x : Option Addr × Nat} {s : List UInt8} (H : Holds W (rwsE q ls :: L)) (hq : q[j]? = some x) (hj : ls[j]? = some s) :
    ∃ R0, Holds W (rwE x s :: R0 :: L) ∧ ∀ W' L' x' s', Holds W' (rwE x' s' :: R0 :: L') → Holds W' (rwsE (q.set j x') (ls.set j s') :: L') := by
  obtain ⟨hl, H2⟩ := H.unpack
  have hjl := (List.getElem?_eq_some_iff.1 hj).1
  have hjz : j < (List.zipWith rwE q ls).length := by rw [List.length_zipWith]; omega
  have e : ∀ x' s', List.zipWith rwE (q.set j x') (ls.set j s') = (List.zipWith rwE q ls).take j ++ rwE x' s' :: (List.zipWith rwE q ls).drop (j + 1) := fun x' s' => by rw [zipS rwE hl, List.set_eq_take_append_cons_drop, if_pos hjz]
  have e0 : List.zipWith rwE q ls = (List.zipWith rwE q ls).take j ++ rwE x s :: (List.zipWith rwE q ls).drop (j + 1) := by
    rw [← e x s]
    rw [set_same hq, set_same hj]
  have ho : ∀ e ∈ (List.zipWith rwE q ls).take j ++ (List.zipWith rwE q ls).drop (j + 1), e.own = true := fun e he => rwz_own e (by
    rcases List.mem_append.1 he with h | h
    · exact List.mem_of_mem_take h
    · exact List.mem_of_mem_drop h)
  refine ⟨packE ((List.zipWith rwE q ls).take j ++ (List.zipWith rwE q ls).drop (j + 1)) True, ?_, fun W' L' x' s' H' => ?_⟩
  · rw [e0] at H2
    have H3 := H2.perm (L' := ((List.zipWith rwE q ls).take j ++ (List.zipWith rwE q ls).drop (j + 1)) ++ (rwE x s :: L)) (by
      rw [List.append_assoc, List.append_assoc, List.cons_append]
      exact List.Perm.append_left _ List.perm_middle.symm)
    have H4 := H3.pack (p := True) trivial ho
    exact H4.perm (List.Perm.swap _ _ _)
  · have H3 := H'.perm (List.Perm.swap _ _ _)
    obtain ⟨-, H4⟩ := H3.unpack
    refine Holds.pack ?_ (by rw [List.length_set, List.length_set]; exact hl) rwz_own
    rw [e x' s']
    refine H4.perm ?_
    rw [List.append_assoc, List.append_assoc, List.cons_append]
    exact List.Perm.append_left _ List.perm_middle
/-- a row gives way to another one. -/
theorem rws_swap {j : Nat} {x : Option Addr × Nat} {s : List UInt8} (H : Holds W (rwE x s :: rwsE q ls :: L)) (hj : j < ls.length) : Holds W (rwsE (q.set j x) (ls.set j s) :: L) := by
  have hl := rws_len H (.tail _ (.head _))
  obtain ⟨R0, H2, hc⟩ := rws_open (H.perm (List.Perm.swap _ _ _)) (List.getElem?_eq_getElem (i := j) (by omega)) (List.getElem?_eq_getElem hj)
  refine hc _ _ _ _ ?_
  have H3 := H2.tail
  exact H3.perm (List.Perm.swap _ _ _)
theorem rwE_64 {b : Nat} {s : List UInt8} {c : Nat} (h : s.length = 64) : ownE 5 1 (.slice (some ⟨b, 0, none⟩) 64 c) 64 (bvs s) = rwE (some ⟨b, 0, none⟩, c) s := by unfold rwE rh; rw [h]
/-- a number and a row: the cells of writes that wait. -/
def wtc : List (Option Addr × Nat) → List (Nat × List UInt8) → List Value
  | x :: q, w :: l => .int .i64 (w.1 : Int) :: rh x w.2 :: wtc q l
  | _, _ => []
theorem wtc_snoc {x : Option Addr × Nat} {w : Nat × List UInt8} : ∀ {q : List (Option Addr × Nat)} {l : List (Nat × List UInt8)}, q.length = l.length → wtc (q ++ [x]) (l ++ [w]) = wtc q l ++ [.int .i64 (w.1 : Int), rh x w.2]
  | [], [], _ => rfl
  | [], _ :: _, h => by simp at h
  | _ :: _, [], h => by simp at h
  | _ :: q, _ :: l, h => by
    simp only [List.cons_append, wtc]
    rw [wtc_snoc (by simpa using h)]
theorem wtc_at : ∀ {q : List (Option Addr × Nat)} {l : List (Nat × List UInt8)} (j : Nat) {x : Option Addr × Nat} {w : Nat × List UInt8}, q[j]? = some x → l[j]? = some w → (wtc q l)[j * 2]? = some (.int .i64 (w.1 : Int)) ∧ (wtc q l)[j * 2 + 1]? = some (rh x w.2)
  | [], _, j, _, _, h, _ => by simp at h
  | _ :: _, [], j, _, _, _, h => by simp at h
  | y :: q, v :: l, 0, x, w, hx, hw => by
    simp at hx hw
    subst hx hw
    exact ⟨rfl, rfl⟩
  | y :: q, v :: l, j + 1, x, w, hx, hw => by
    rw [List.getElem?_cons_succ] at hx hw
    have := wtc_at j hx hw
    rw [wtc, show (j + 1) * 2 = j * 2 + 1 + 1 from by omega, List.getElem?_cons_succ, List.getElem?_cons_succ, List.getElem?_cons_succ, List.getElem?_cons_succ]
    exact this
section
variable {P : Program} {ops : Array Oper} {a : Act} {w : World} {L : List Ent} {dst : Option Tmp} {T : TypeId} {x : Operand} {ty : TypeId} {pos : String} {after : Array Edge} {gd : Option (Nat × Bool)}
theorem yields_loadVs (hw : Region.wanted ⟨dst, .load T x, ty, pos, after, gd⟩ (yielded ops a.tmps) = true) {b o j : Nat} (hx : a.eval x = .pointer (some ⟨b, o + j, none⟩)) {n cap size : Nat} {vs : List Value}
    (hm : Gives L fun w => Rd w size (some ⟨b, o, none⟩) n cap vs) (hs : Scalar P T) (hj : j < n * size) {v : Value} (hv : vs[j]? = some v) : YieldsIf P ops (fun w => Holds w L) ⟨dst, .load T x, ty, pos, after, gd⟩ v a := .inl ⟨hw, fun w H => by
  have hR := hm w H
  obtain ⟨b', o', e, hc⟩ := hR.at_ (by rcases Nat.eq_zero_or_pos n with h | h; (subst h; omega); exact h)
  injection e with e
  injection e with e1 e2
  subst e1 e2
  have hc2 := hc j hj
  rw [hv] at hc2
  unfold execOp
  simp [hx, Instr.loadAt, Instr.sureAddr, loadVar, run_isAgg_no hs, Sem.run_bind, hc2, load, Sem.run]⟩
theorem yields_loadVs0 (hw : Region.wanted ⟨dst, .load T x, ty, pos, after, gd⟩ (yielded ops a.tmps) = true) {b j : Nat} (hx : a.eval x = .pointer (some ⟨b, j, none⟩)) {n cap size : Nat} {vs : List Value}
    (hm : Gives L fun w => Rd w size (some ⟨b, 0, none⟩) n cap vs) (hs : Scalar P T) (hj : j < n * size) {v : Value} (hv : vs[j]? = some v) : YieldsIf P ops (fun w => Holds w L) ⟨dst, .load T x, ty, pos, after, gd⟩ v a :=
  yields_loadVs (o := 0) hw (by rw [hx, Nat.zero_add]) hm hs hj hv
theorem wpl_loadVs {rest : List Oper} {Q : Exit → Act → World → Prop} (H : Holds w L) (hw : Region.wanted ⟨dst, .load T x, ty, pos, after, gd⟩ (yielded ops a.tmps) = true) {b o j : Nat} (hx : a.eval x = .pointer (some ⟨b, o + j, none⟩)) {n cap size : Nat} {vs : List Value}
    (hm : Gives L fun w => Rd w size (some ⟨b, o, none⟩) n cap vs) (hs : Scalar P T) (hj : j < n * size) {v : Value} (hv : vs[j]? = some v) (h : wpList P ops Q rest (a.put dst v) w) : wpList P ops Q (⟨dst, .load T x, ty, pos, after, gd⟩ :: rest) a w := by
  rcases yields_loadVs (P := P) (ops := ops) hw hx hm hs hj hv with ⟨h1, h2⟩ | ⟨h1, -⟩
  · exact wpl_run hw (h2 w H) h
  · rw [hw] at h1; cases h1
theorem wpl_loadVs0 {rest : List Oper} {Q : Exit → Act → World → Prop} (H : Holds w L) (hw : Region.wanted ⟨dst, .load T x, ty, pos, after, gd⟩ (yielded ops a.tmps) = true) {b j : Nat} (hx : a.eval x = .pointer (some ⟨b, j, none⟩)) {n cap size : Nat} {vs : List Value}
    (hm : Gives L fun w => Rd w size (some ⟨b, 0, none⟩) n cap vs) (hs : Scalar P T) (hj : j < n * size) {v : Value} (hv : vs[j]? = some v) (h : wpList P ops Q rest (a.put dst v) w) : wpList P ops Q (⟨dst, .load T x, ty, pos, after, gd⟩ :: rest) a w :=
  wpl_loadVs (o := 0) H hw (by rw [hx, Nat.zero_add]) hm hs hj hv h
end
theorem drop_cons' {α : Type} {l : List α} {k : Nat} {x : α} (h : l[k]? = some x) : l.drop k = x :: l.drop (k + 1) := by
  obtain ⟨h1, h2⟩ := List.getElem?_eq_some_iff.1 h
  rw [List.drop_eq_getElem_cons h1, h2]
theorem wpl_slice1 {P : Program} {ops : Array Oper} {rest : List Oper} {a : Act} {w : World} {Q : Exit → Act → World → Prop} {L : List Ent} {dst : Option Tmp} {x : Operand} {ty : TypeId} {pos : String} {after : Array Edge} {gd : Option (Nat × Bool)} {t e : TypeId} {z : Value} {size bytes : Nat} {vs : List Value} (H : Holds w L)
    (hw : Region.wanted ⟨dst, .buildSlice t 1 #[(0, x)], ty, pos, after, gd⟩ (yielded ops a.tmps) = true) (hx : (a.eval x).cells = vs.toArray) (ht : P.underlying t = some (.slice e)) (hinfo : (P.info? e).map (fun i => (i.zero, i.size, i.bytes)) = some (some z, size, bytes))
    (hzs : z.cells.size = size) (hl : vs.length = size) (h0 : 0 < size) (h24 : size ≤ 16777216) (h : ∀ b w', Holds w' (blk b vs e :: L) → wpList P ops Q rest (a.put dst (.slice (some ⟨b, 0, none⟩) 1 1)) w') :
    wpList P ops Q (⟨dst, .buildSlice t 1 #[(0, x)], ty, pos, after, gd⟩ :: rest) a w := by
  refine wpl_run hw (v := .slice (some ⟨w.heap.size, 0, none⟩) 1 1) (w' := w.alloc (.cells vs.toArray e)) ?_ (h _ _ (H.alloc vs e))
  have hr := run_slice1 (P := P) (w := w) hx ht hinfo hzs hl h0 h24
  unfold execOp
  simp only [List.map_toArray, List.map_cons, List.map_nil, Sem.run_bind, hr, Result.andThen_ok, Sem.run_pure]
end
end Go.Proofs.YtdnioigcgggdbaaGreatDoor
set_option linter.unusedVariables false
set_option linter.unusedSimpArgs false
namespace Go.Proofs.YtdnioigcgggdbaaGreatDoor
open Go.RowKit

/-- what is read: what is sure, and over it what waits. -/
def lay (su : List (List UInt8)) (wa : List (Nat × List UInt8)) : List (List UInt8) := wa.foldl (fun l x => l.set x.1 x.2) su
theorem lay_snoc (su wa x) : lay su (wa ++ [x]) = (lay su wa).set x.1 x.2 := by unfold lay; rw [List.foldl_append]; rfl
theorem lay_len : ∀ (wa su), (lay su wa).length = su.length
  | [], su => rfl
  | x :: wa, su => by
    have := lay_len wa (su.set x.1 x.2)
    rw [List.length_set] at this
    exact this
theorem lay_take {wa : List (Nat × List UInt8)} {k : Nat} {x : Nat × List UInt8} (h : wa[k]? = some x) (su) : lay su (wa.take (k + 1)) = (lay su (wa.take k)).set x.1 x.2 := by
  rw [List.take_add_one, h, Option.toList_some, lay_snoc]
theorem lay_64 : ∀ {wa : List (Nat × List UInt8)} {su : List (List UInt8)} {n : Nat}, (∀ s ∈ su, s.length = 64) → (∀ x ∈ wa, x.1 < n ∧ x.2.length = 64) → ∀ s ∈ lay su wa, s.length = 64
  | [], su, _, h, _ => h
  | x :: wa, su, n, h, hw => by
    have : lay su (x :: wa) = lay (su.set x.1 x.2) wa := rfl
    rw [this]
    refine lay_64 (n := n) (fun s hs => ?_) fun y hy => hw y (.tail _ hy)
    rcases List.mem_or_eq_of_mem_set hs with h1 | rfl
    · exact h s h1
    · exact (hw x (.head _)).2
/-- so many calls that are left, as the reference keeps them. -/
def clf (lf : Int) : Int := max (-1) lf
/-- where a reference's disk lies. -/
structure Rv where
  gs : Nat
  cs : Nat
  q : List (Option Addr × Nat)
  aw : Option Addr
  cw : Nat
  qw : List (Option Addr × Nat)
structure ROk (d : Dd) : Prop where
  n0 : 0 < d.su.length
  n1 : d.su.length ≤ 4096
  nn : d.no = lay d.su d.wa
  sl : ∀ s ∈ d.su, s.length = 64
  wl : ∀ x ∈ d.wa, x.1 < d.su.length ∧ x.2.length = 64
  l1 : -9223372036854775808 ≤ d.lf
  l2 : d.lf ≤ 9223372036854775807
def rdL (g : Nat) (v : Rv) (d : Dd) : List Ent :=
  [blk g [.slice (some ⟨v.gs, 0, none⟩) d.su.length v.cs, .slice v.aw d.wa.length v.cw, .int .i64 (clf d.lf), .bool d.bl] 74,
   ownE 50 1 (.slice (some ⟨v.gs, 0, none⟩) d.su.length v.cs) d.su.length (List.zipWith rh v.q d.su), rwsE v.q d.su,
   ownE 103 2 (.slice v.aw d.wa.length v.cw) d.wa.length (wtc v.qw d.wa), rwsE v.qw (d.wa.map (·.2))]
def rdE (g : Nat) (v : Rv) (d : Dd) : Ent := packE (rdL g v d) (ROk d)
section
variable {W : World} {L L' L0 : List Ent} {R : Ending → World → Prop} {g : Nat} {v : Rv} {d : Dd}
theorem rd_open (H : Holds W (rdE g v d :: L)) : ROk d ∧ Holds W (blk g [.slice (some ⟨v.gs, 0, none⟩) d.su.length v.cs, .slice v.aw d.wa.length v.cw, .int .i64 (clf d.lf), .bool d.bl] 74 ::
   ownE 50 1 (.slice (some ⟨v.gs, 0, none⟩) d.su.length v.cs) d.su.length (List.zipWith rh v.q d.su) :: rwsE v.q d.su ::
   ownE 103 2 (.slice v.aw d.wa.length v.cw) d.wa.length (wtc v.qw d.wa) :: rwsE v.qw (d.wa.map (·.2)) :: L) := H.unpack
theorem rd_shut (v : Rv) (d : Dd) (H : Holds W (blk g [.slice (some ⟨v.gs, 0, none⟩) d.su.length v.cs, .slice v.aw d.wa.length v.cw, .int .i64 (clf d.lf), .bool d.bl] 74 ::
   ownE 50 1 (.slice (some ⟨v.gs, 0, none⟩) d.su.length v.cs) d.su.length (List.zipWith rh v.q d.su) :: rwsE v.q d.su ::
   ownE 103 2 (.slice v.aw d.wa.length v.cw) d.wa.length (wtc v.qw d.wa) :: rwsE v.qw (d.wa.map (·.2)) :: L)) (ho : ROk d) : Holds W (rdE g v d :: L) :=
  Holds.pack (l := rdL g v d) H ho (by intro e he; simp only [rdL, List.mem_cons, List.not_mem_nil, or_false] at he; rcases he with rfl | rfl | rfl | rfl | rfl <;> rfl)
set_option maxRecDepth 100000 in
set_option maxHeartbeats 1000000 in
theorem rmay_k {x y : Value} {lf : Int} {bl : Bool} (h2 : lf ≤ 9223372036854775807) (H : Holds W L) (hm : Pull (blk g [x, y, .int .i64 (clf lf), .bool bl] 74) L L0)
    (k : ∀ w', Holds w' (blk g [x, y, .int .i64 (clf (spentL lf bl)), .bool (spentB lf bl)] 74 :: L0) → R (.returned (.bool (!spentB lf bl))) w') : Calls Tryz.prog 55 #[.pointer (some ⟨g, 0, none⟩)] W R := by
  replace H := H.pull hm
  clear hm
  have HK := Lib.hid k; clear k
  by_cases h0 : lf = 0
  · subst h0
    rw [show spentL 0 bl = 0 from by cases bl <;> rfl, show spentB 0 bl = true from by cases bl <;> rfl] at HK
    rw [show clf 0 = 0 from rfl] at H HK
    go_enter Tryz.func55, Tryz.ntmps55
    go_wp2_with (first | ((with_reducible apply wpl_load H); (case hs => exact sc _ rfl); (case hw | hx => rfl); (case hm => (with_reducible repeat first | exact mH)); (case hv => rfl)) | ((with_reducible apply wpl_store1 H); (case hs => exact sz_sc _ rfl); (case hw | hx => rfl); (case hy => (first | exact (rfl : _ = Value.bool _) )); (case hm => (with_reducible repeat first | exact Upd.here)); (case h1 => rfl); (case hk => exact Nat.le_of_ble_eq_true rfl); clear H; (try clear W); intro W H; simp only [setL, List.set_cons_zero, List.set_cons_succ] at H) )
    exact HK.out _ H
  · have h3 : (lf == 0) = false := by rw [beq_eq_false_iff_ne]; exact h0
    by_cases h4 : 0 < lf
    · have e1 : clf lf = lf := by unfold clf; omega
      rw [e1] at H
      cases bl with
      | true =>
        rw [show spentL lf true = lf from by simp [spentL, spentB], show spentB lf true = true from rfl, e1] at HK
        clear e1
        go_enter Tryz.func55, Tryz.ntmps55
        go_wp2_with (first | ((with_reducible apply wpl_load H); (case hs => exact sc _ rfl); (case hw | hx => rfl); (case hm => (with_reducible repeat first | exact mH)); (case hv => rfl)) )
        exact HK.out _ H
      | false =>
        rw [show spentL lf false = lf - 1 from by simp [spentL, spentB, h3, h4], show spentB lf false = false from by simp [spentB, h3], show clf (lf - 1) = lf - 1 from by unfold clf; omega] at HK
        clear e1
        go_enter Tryz.func55, Tryz.ntmps55
        go_wp2_with (first | ((with_reducible apply wpl_load H); (case hs => exact sc _ rfl); (case hw | hx => rfl); (case hm => (with_reducible repeat first | exact mH)); (case hv => rfl)) | ((with_reducible apply wpl_store1 H); (case hs => exact sz_sc _ rfl); (case hw | hx => rfl); (case hy => (first | exact (rfl : _ = Value.int _ _) )); (case hm => (with_reducible repeat first | exact Upd.here)); (case h1 => rfl); (case hk => exact Nat.le_of_ble_eq_true rfl); clear H; (try clear W); intro W H; simp only [setL, List.set_cons_zero, List.set_cons_succ] at H) )
        exact HK.out _ H
    · have e1 : clf lf = -1 := by unfold clf; omega
      rw [e1] at H
      cases bl with
      | true =>
        rw [show spentL lf true = lf from by simp [spentL, spentB], show spentB lf true = true from rfl, e1] at HK
        clear e1
        go_enter Tryz.func55, Tryz.ntmps55
        go_wp2_with (first | ((with_reducible apply wpl_load H); (case hs => exact sc _ rfl); (case hw | hx => rfl); (case hm => (with_reducible repeat first | exact mH)); (case hv => rfl)) )
        exact HK.out _ H
      | false =>
        rw [show spentL lf false = lf from by simp [spentL, h4], show spentB lf false = false from by simp [spentB, h3], e1] at HK
        clear e1
        go_enter Tryz.func55, Tryz.ntmps55
        go_wp2_with (first | ((with_reducible apply wpl_load H); (case hs => exact sc _ rfl); (case hw | hx => rfl); (case hm => (with_reducible repeat first | exact mH)); (case hv => rfl)) )
        exact HK.out _ H
set_option maxRecDepth 100000 in
set_option maxHeartbeats 1000000 in
theorem rlen_k (H : Holds W L) (hm : Pull (rdE g v d) L L0) (k : ∀ w', Holds w' (rdE g v d :: L0) → R (.returned (.int .i64 (d.su.length : Int))) w') : Calls Tryz.prog 44 #[.pointer (some ⟨g, 0, none⟩)] W R := by
  obtain ⟨ho, H⟩ := rd_open (H.pull hm)
  clear hm
  have HK := Lib.hid k; clear k
  have Ho := Lib.hid ho
  clear ho
  go_enter Tryz.func44, Tryz.ntmps44
  go_wp2_with (first | ((with_reducible apply wpl_load H); (case hs => exact sc _ rfl); (case hw | hx => rfl); (case hm => (with_reducible repeat first | exact mH)); (case hv => rfl)) )
  exact HK.out _ (rd_shut _ _ H Ho.out)
set_option maxRecDepth 100000 in
set_option maxHeartbeats 1000000 in
theorem rwaits_k (H : Holds W L) (hm : Pull (rdE g v d) L L0) (k : ∀ w', Holds w' (rdE g v d :: L0) → R (.returned (.int .i64 (d.wa.length : Int))) w') : Calls Tryz.prog 63 #[.pointer (some ⟨g, 0, none⟩)] W R := by
  obtain ⟨ho, H⟩ := rd_open (H.pull hm)
  clear hm
  have HK := Lib.hid k; clear k
  have Ho := Lib.hid ho
  clear ho
  go_enter Tryz.func63, Tryz.ntmps63
  go_wp2_with (first | ((with_reducible apply wpl_load H); (case hs => exact sc _ rfl); (case hw | hx => rfl); (case hm => (with_reducible repeat first | exact mH)); (case hv => rfl)) )
  exact HK.out _ (rd_shut _ _ H Ho.out)
set_option maxRecDepth 100000 in
set_option maxHeartbeats 1000000 in
theorem rblown_k (H : Holds W L) (hm : Pull (rdE g v d) L L0) (k : ∀ w', Holds w' (rdE g v d :: L0) → R (.returned (.bool d.bl)) w') : Calls Tryz.prog 65 #[.pointer (some ⟨g, 0, none⟩)] W R := by
  obtain ⟨ho, H⟩ := rd_open (H.pull hm)
  clear hm
  have HK := Lib.hid k; clear k
  have Ho := Lib.hid ho
  clear ho
  go_enter Tryz.func65, Tryz.ntmps65
  go_wp2_with (first | ((with_reducible apply wpl_load H); (case hs => exact sc _ rfl); (case hw | hx => rfl); (case hm => (with_reducible repeat first | exact mH)); (case hv => rfl)) )
  exact HK.out _ (rd_shut _ _ H Ho.out)
set_option maxRecDepth 100000 in
set_option maxHeartbeats 1000000 in
theorem rfuse_k (n : Int) (hn1 : -9223372036854775808 ≤ n) (hn2 : n ≤ 9223372036854775807) (H : Holds W L) (hm : Pull (rdE g v d) L L0) (k : ∀ w', Holds w' (rdE g v (d.fuse n) :: L0) → R (.returned (.int .i64 0)) w') : Calls Tryz.prog 13 #[.pointer (some ⟨g, 0, none⟩), .int .i64 n] W R := by
  obtain ⟨ho, H⟩ := rd_open (H.pull hm)
  clear hm
  have HK := Lib.hid k; clear k
  have Ho := Lib.hid ho
  clear ho
  have Hn : Hid ((if (-1 : Int) < n then n else -1) = clf n) := Lib.hid (by unfold clf; split <;> omega)
  have Hn2 : Hid ((max (-1 : Int) n) = clf n) := Lib.hid rfl
  go_enter Tryz.func13, Tryz.ntmps13
  go_wp2_with (first | ((with_reducible apply wpl_store1 H); (case hs => exact sz_sc _ rfl); (case hw | hx => rfl); (case hy => (first | exact (rfl : _ = Value.int _ _) | exact (rfl : _ = Value.bool _) )); (case hm => (with_reducible repeat first | exact Upd.here)); (case h1 => rfl); (case hk => exact Nat.le_of_ble_eq_true rfl); clear H; (try clear W); intro W H; simp only [setL, List.set_cons_zero, List.set_cons_succ] at H) | (first | rw [Hn.out] ))
  have ho := Ho.out
  exact HK.out _ (rd_shut v (d.fuse n) H ⟨ho.n0, ho.n1, ho.nn, ho.sl, ho.wl, hn1, hn2⟩)
end
end Go.Proofs.YtdnioigcgggdbaaGreatDoor
