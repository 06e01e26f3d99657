/-
  A Book over bytes: Bytes and Apart.
  A copy with a mark behind it: as an entry, as it reads, and as a slice of the call's own once it has been looked at.
-/
import Derived.Test.YtdnioigcgggdbaaGreatDoorBook7
import Derived.Test.YtdnioigcgggdbaaGreatDoorMar
import Derived.Test.YtdnioigcgggdbaaGreatDoorMaq
set_option linter.unusedVariables false
set_option linter.unusedSimpArgs false
namespace Go.Proofs.YtdnioigcgggdbaaGreatDoor
open Go.RowKit

theorem stF_zero (hs : List Hd) : stF hs 0 = hs.map fun h => rowE 5 h.A h.n h.c h.xs := by
  apply List.ext_getElem?
  intro j
  unfold stF
  rw [List.getElem?_mapIdx, List.getElem?_map]
  cases hs[j]? with
  | none => rfl
  | some x => simp
theorem rowsOf_snoc : ∀ (k : Nat) (hs : List Hd) (h : Hd), rowsOf k (hs ++ [h]) = rowsOf k hs ++ hdRow h (k + hs.length)
  | k, [], h => by simp [rowsOf]
  | k, x :: t, h => by
    rw [List.cons_append, rowsOf, rowsOf, rowsOf_snoc (k + 1) t h, List.append_assoc, List.length_cons]
    congr 3
    omega
/-- what a Book holds is fit. -/
def HdOk (hs : List Hd) : Prop := hs.length ≤ 10000 ∧ ∀ h ∈ hs, h.n ≤ 100000 ∧ h.xs.length = h.n
/-- a Book in memory: the block, its list, and all slices that it holds. -/
def bkE (g : Nat) (B : Option Addr) (cb : Nat) (hs : List Hd) : Ent :=
  packE (blk g [.int .i64 (hs.length : Nat), .slice B hs.length cb, .slice none 0 0, .slice none 0 0, .slice none 0 0, .slice none 0 0, .slice none 0 0, .slice none 0 0, .slice none 0 0, .slice none 0 0] 49 :: ownE 121 3 (.slice B hs.length cb) hs.length (rowsOf 0 hs) :: stF hs 0) (HdOk hs)
theorem bk_open {w : World} {L : List Ent} {g : Nat} {B : Option Addr} {cb : Nat} {hs : List Hd} (H : Holds w (bkE g B cb hs :: L)) :
    HdOk hs ∧ Holds w (blk g [.int .i64 (hs.length : Nat), .slice B hs.length cb, .slice none 0 0, .slice none 0 0, .slice none 0 0, .slice none 0 0, .slice none 0 0, .slice none 0 0, .slice none 0 0, .slice none 0 0] 49 :: ownE 121 3 (.slice B hs.length cb) hs.length (rowsOf 0 hs) :: (stF hs 0 ++ L)) := H.unpack
theorem bk_shut {w : World} {L : List Ent} {g : Nat} {B : Option Addr} {cb : Nat} {hs : List Hd} (ho : HdOk hs) (H : Holds w (blk g [.int .i64 (hs.length : Nat), .slice B hs.length cb, .slice none 0 0, .slice none 0 0, .slice none 0 0, .slice none 0 0, .slice none 0 0, .slice none 0 0, .slice none 0 0, .slice none 0 0] 49 :: ownE 121 3 (.slice B hs.length cb) hs.length (rowsOf 0 hs) :: (stF hs 0 ++ L))) : Holds w (bkE g B cb hs :: L) :=
  Holds.pack (l := blk g [.int .i64 (hs.length : Nat), .slice B hs.length cb, .slice none 0 0, .slice none 0 0, .slice none 0 0, .slice none 0 0, .slice none 0 0, .slice none 0 0, .slice none 0 0, .slice none 0 0] 49 :: ownE 121 3 (.slice B hs.length cb) hs.length (rowsOf 0 hs) :: stF hs 0) H ho (by
    intro e he
    rcases List.mem_cons.1 he with rfl | he
    · rfl
    · rcases List.mem_cons.1 he with rfl | he
      · rfl
      · rw [stF_zero] at he
        obtain ⟨h, -, rfl⟩ := List.mem_map.1 he
        rfl)
section
variable {W : World} {L L' L0 L1 : List Ent} {R : Ending → World → Prop} {g : Nat}
set_option maxRecDepth 100000 in
set_option maxHeartbeats 2000000 in
theorem apart_k {B : Option Addr} {cb : Nat} {hs : List Hd} (H : Holds W L) (hm : Pull (bkE g B cb hs) L L0) (k : ∀ w', Holds w' L0 → R (.returned (.bool true)) w') :
    Calls Tryz.prog 24 #[.pointer (some ⟨g, 0, none⟩)] W R := by
  have HK := Lib.hid k; clear k
  obtain ⟨ho, H2⟩ := bk_open (H.pull hm)
  clear H hm
  have H := H2
  clear H2
  have Ho1 := Lib.hid ho.1
  have Ho2 := Lib.hid ho.2
  clear ho
  go_enter Tryz.func24, Tryz.ntmps24
  go_wp2_with (first | ((with_reducible apply fill_k); (case H => exact H); (case hnb => exact Ho1.out); (case hl => rfl); (case hh => exact Ho2.out); clear H; (try clear W); intro W H) | ((rw [← stG_none] at H); (with_reducible apply grow_k); (case H => exact H); (case hnb => exact Ho1.out); (case hl => rfl); (case hh => exact fun h hm => (Ho2.out h hm).1); clear H; (try clear W); intro hs2 W hl2 hh2 H; have Hl2 := Lib.hid hl2; have Hh2 := Lib.hid hh2; clear hl2 hh2) | ((with_reducible apply look_k); (case H => exact H); (case hnb => exact Ho1.out); (case hl => exact Hl2.out); (case hh => exact Hh2.out); clear H; (try clear W); intro W H) | ((first | (with_reducible apply no_fillInt H) | (with_reducible apply no_growInt H) | (with_reducible apply no_lookInt H) | (with_reducible apply no_fillText H) | (with_reducible apply no_growText H) | (with_reducible apply no_lookText H) | (with_reducible apply no_fillByteList H) | (with_reducible apply no_growByteList H) | (with_reducible apply no_lookByteList H) | (with_reducible apply no_fillSum H) | (with_reducible apply no_growSum H) | (with_reducible apply no_lookSum H) | (with_reducible apply no_fillPair H) | (with_reducible apply no_growPair H) | (with_reducible apply no_lookPair H) | (with_reducible apply no_fillTenant H) | (with_reducible apply no_growTenant H) | (with_reducible apply no_lookTenant H) | (with_reducible apply no_fillLease H) | (with_reducible apply no_growLease H) | (with_reducible apply no_lookLease H) | (with_reducible apply no_fillEvent H) | (with_reducible apply no_growEvent H) | (with_reducible apply no_lookEvent H)); (case hm => (with_reducible repeat first | exact mH)); (case hv => rfl); clear H; (try clear W); intro W H))
  exact HK.out _ H.tail.tail.append_right
set_option maxRecDepth 100000 in
set_option maxHeartbeats 2000000 in
theorem bytes_k {B A : Option Addr} {cb n c : Nat} {hs : List Hd} {xs : List Value} (hn : n ≤ 100000) (hx : xs.length = n) (hlen : hs.length < 10000) (H : Holds W L) (hm : Pull (bkE g B cb hs) L L1) (hm2 : Pull (rowE 5 A n c xs) L1 L0)
    (k : ∀ B' cb' w', Holds w' (bkE g B' cb' (hs ++ [⟨A, n, c, xs, none, 0, 0⟩]) :: L0) → R (.returned (.tuple #[])) w') :
    Calls Tryz.prog 29 #[.pointer (some ⟨g, 0, none⟩), .slice A n c] W R := by
  obtain ⟨ho, H2⟩ := bk_open (H.pull hm)
  clear H hm
  have H := H2
  clear H2
  have HK : Hid (∀ B' cb' w', Holds w' (blk g [.int .i64 ((hs.length : Int) + 1), .slice B' (hs.length + 1) cb', .slice none 0 0, .slice none 0 0, .slice none 0 0, .slice none 0 0, .slice none 0 0, .slice none 0 0, .slice none 0 0, .slice none 0 0] 49 :: ownE 121 3 (.slice B' (hs.length + 1) cb') (hs.length + 1) (rowsOf 0 hs ++ [.slice A n c, .slice none 0 0, .int .i64 ((hs.length : Int) + 1)]) :: (stF hs 0 ++ L1)) → R (.returned (.tuple #[])) w') := Lib.hid fun B' cb' w' h => by
    refine k B' cb' w' (bk_shut ⟨by rw [List.length_append]; simp; omega, fun x hxm => ?_⟩ ?_)
    · rcases List.mem_append.1 hxm with hxm | hxm
      · exact ho.2 x hxm
      · obtain rfl := List.mem_singleton.1 hxm
        exact ⟨hn, hx⟩
    · rw [List.length_append, rowsOf_snoc, stF_zero, List.map_append, ← stF_zero]
      simp only [List.length_cons, List.length_nil, Nat.zero_add, List.map_cons, List.map_nil, hdRow]
      have h2 := h.perm (((hm2.perm.append_left (stF hs 0)).cons _).cons _)
      rw [List.append_assoc]
      exact h2
  clear k
  have Hlen := Lib.hid hlen
  clear hn hx hlen ho
  go_enter Tryz.func29, Tryz.ntmps29
  go_wp2_with (first | ((with_reducible apply keep_k); (case H => exact H); (case hnb => exact Nat.le_of_lt Hlen.out); (case hm => exact Pull.here); (case hm2 => exact Pull.here); clear H; (try clear W); intro B2 cb2 W H))
  go_end0
  exact HK.out _ _ _ H
/-- a Book that is new. -/
theorem bk_new (H : Holds W (blk g [.int .i64 0, .slice none 0 0, .slice none 0 0, .slice none 0 0, .slice none 0 0, .slice none 0 0, .slice none 0 0, .slice none 0 0, .slice none 0 0, .slice none 0 0] 49 :: L)) : Holds W (bkE g none 0 [] :: L) := by
  refine bk_shut ⟨Nat.zero_le _, fun h hh => by cases hh⟩ ?_
  have h2 := H.add_nil 121 3
  exact h2.perm (List.Perm.swap _ _ _)
end
end Go.Proofs.YtdnioigcgggdbaaGreatDoor
set_option linter.unusedVariables false
set_option linter.unusedSimpArgs false
namespace Go.Proofs.YtdnioigcgggdbaaGreatDoor
open Go.RowKit

/-- a copy: its bytes, and the mark behind them. -/
def twE (b n c : Nat) (l : List UInt8) : Ent := ownE 5 1 (.slice (some ⟨b, 0, none⟩) (n + 1) c) (n + 1) (bvs (l ++ [77]))
section
variable {W : World} {L L' L0 : List Ent} {R : Ending → World → Prop} {b n c : Nat} {l : List UInt8}
theorem gives_tw1 (h : twE b n c l ∈ L) : Gives L fun w => Rd w 1 (some ⟨b, 0, none⟩) (n + 1) c (bvs (l ++ [77])) := gives_own h rfl
theorem gives_tw (h : twE b n c l ∈ L) (hl : l.length = n) : Gives L fun w => Rd w 1 (some ⟨b, 0, none⟩) n c (bvs l) := (gives_tw1 h).imp fun w h => by
  have hle := h.le
  have := h.cut 0 n c (by omega) (by omega) (by omega) (by omega)
  rw [if_neg (by omega), Option.map_some, Nat.mul_one, Nat.mul_one, Nat.sub_zero, List.drop_zero, ← bvs_take, List.take_left' hl] at this
  simpa [add_mk] using this
theorem tw_k {A : Option Addr} {cap : Nat} (hr : Gives L fun w => Rd w 1 A n cap (bvs l)) (hn : n ≤ 1000000) (H : Holds W L)
    (k : ∀ b c w', Holds w' (twE b n c l :: L) → R (.returned (.slice (some ⟨b, 0, none⟩) n c)) w') :
    Calls Tryz.prog 9 #[.slice A n cap] W R := by
  refine (twin_h H hr (by omega)).mono ?_
  rintro e w' ⟨b, c, rfl, -, h⟩
  exact k b c w' h
theorem Holds.tw_row (H : Holds W L) (hl : l.length = n) (u : Upd (twE b n c l) (rowE 5 (some ⟨b, 0, none⟩) n c (bvs l)) L L') : Holds W L' := by
  obtain ⟨M, h1, h2⟩ := u.split
  have h3 := Holds.shrink (m := n) (H.pull h1) (by omega)
  rw [← bvs_take, List.take_left' hl] at h3
  exact h3.to_row.perm h2.perm.symm
theorem leftT_k {A2 : Option Addr} {c2 : Nat} (hn : n ≤ 1000000) (hl : l.length = n) (H : Holds W L) (u : Upd (twE b n c l) (rowE 5 (some ⟨b, 0, none⟩) n c (bvs l)) L L') (G2 : Gives L fun w => Rd w 1 A2 n c2 (bvs l)) (k : ∀ w', Holds w' L' → R (.returned (.bool true)) w') :
    Calls Tryz.prog 23 #[.slice (some ⟨b, 0, none⟩) n c, .slice A2 n c2] W R :=
  leftB_k hn (gives_tw1 u.mem) G2 H fun w' h => k w' (h.tw_row hl u)
theorem sameR_k {A1 A2 : Option Addr} {n1 c1 n2 c2 : Nat} (h1 : Gives L fun w => Rd w 1 A1 n1 c1 (bvs l)) (h2 : Gives L fun w => Rd w 1 A2 n2 c2 (bvs l)) (H : Holds W L) (k : ∀ w', Holds w' L → R (.returned (.bool true)) w') :
    Calls Tryz.prog 32 #[.slice A1 n1 c1, .slice A2 n2 c2] W R := same_k h1 h2 H fun w' h => by rw [decide_eq_true rfl]; exact k w' h
end
end Go.Proofs.YtdnioigcgggdbaaGreatDoor
