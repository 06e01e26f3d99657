/-
  TwinBytes: the same bytes in memory of their own, with room behind them.
  LeftBytes: a copy with a mark behind it is still what it was made of.
  A slice and what was appended behind it, as one entry; the entries that a Book holds.
-/
import Derived.Test.YtdnioigcgggdbaaGreatDoorStm4
import Derived.Test.YtdnioigcgggdbaaGreatDoorMab
import Derived.Test.YtdnioigcgggdbaaGreatDoorMac
set_option linter.unusedVariables false
set_option linter.unusedSimpArgs false
namespace Go.Proofs.YtdnioigcgggdbaaGreatDoor
open Go.RowKit

theorem take_byte (l : List UInt8) (k : Nat) (h : k < l.length) : bvs (l.take k) ++ [Value.int .u8 ((l[k]?.getD 0).toNat : Int)] = bvs (l.take (k + 1)) := by
  rw [List.take_add_one, bvs_append, List.getElem?_eq_getElem h]; rfl
set_option maxRecDepth 100000 in
set_option maxHeartbeats 1000000 in
theorem twin_h {A : Option Addr} {n cap : Nat} {l : List UInt8} {W : World} {L : List Ent} (H : Holds W L) (hr : Gives L fun w => Rd w 1 A n cap (bvs l)) (hn : n ≤ 70368744177664) :
    Calls Tryz.prog 9 #[.slice A n cap] W fun e w' => ∃ b c, e = .returned (.slice (some ⟨b, 0, none⟩) n c) ∧ n < c ∧ Holds w' (ownE 5 1 (.slice (some ⟨b, 0, none⟩) (n + 1) c) (n + 1) (bvs (l ++ [77])) :: L) := by
  have hl := (hr W H).blen
  have hle := (hr W H).le
  have htop := (hr W H).top
  unfold maxLen at htop
  have Hl := Lib.hid hl
  clear hl
  go_enter Tryz.func9, Tryz.ntmps9
  go_wp2_with (first | ((with_reducible apply wpl_make1 H 0 (n + 1)); (case ht => exact Tryz.underlying50); (case hinfo => exact inf_5); (case hw | hl => rfl); (case hc | hN => rfl); (case hC => omega); (case hz1 => rfl); (case hnc | hb | h63 => omega); (case hmx => (simp only [maxLen]; omega)); clear H; clear W; intro q1 W H))
  go_loopw [3, 4] (fun t i wr => ∃ (k : Nat) (B : Option Addr) (c : Nat), k ≤ n ∧ i = .int .i64 k ∧ t = .slice B k c ∧ Holds wr (ownE 5 1 (.slice B k c) k (bvs (l.take k)) :: L)) (fun _ i _ => n - (intOf i).toNat)
  case atStart => exact ⟨0, some ⟨q1, 0, none⟩, n + 1, by omega, rfl, rfl, H⟩
  case round =>
    clear H W
    obtain ⟨k, B, c, hk, rfl, rfl, H⟩ := hrel
    rename World => W
    by_cases hlt : k < n
    · have hk2 : k < cap := by omega
      obtain ⟨ab, ao, rfl, -⟩ := (hr W H.tail).byte hlt
      go_wp2_with (first | ((with_reducible refine wpl_absorb H ?_); clear H; (first | generalize W.heap.size = q0); (try clear W); intro W H) | ((with_reducible apply wpl_loadB H); (case hs => exact sc _ rfl); (case hw | hx => rfl); (case hm => (first | (repeat (first | assumption | with_reducible apply Gives.cons)))); (case hj => first | assumption )) | ((with_reducible apply wpl_app H); (case ht => (first | exact Tryz.underlying50 )); (case hinfo => (first | exact inf_5 )); (case hw | hs | hx => rfl); (case hm => (with_reducible repeat first | exact Pull.here | apply Pull.there)); (case hzs => rfl); (case hsz => decide); (case hr => (first | (apply gives_blk; (case h => (with_reducible repeat first | exact mH)); (case hn => rfl); (case hl => omega)) )); (case h1 => first | (intro u hu; obtain rfl := List.mem_singleton.1 hu; rfl)); (case h63 => (simp only [maxLen]; omega)); (case hbytes => omega); clear H; (try clear W); intro A1 n1 c1 W hn H hle1 htop1; obtain rfl := hn.out; clear hn) )
      go_roundw
      case rel => exact ⟨k + 1, _, _, by omega, by go_num, rfl, by rw [take_byte l k (by have := Hl.out; omega)] at H; exact Reord.use H (by ((repeat (with_reducible apply Reord.cons; (case p => (with_reducible repeat first | exact Pull.here)))); repeat (first | with_reducible exact Reord.rest | with_reducible apply Reord.drop)))⟩
      case measure => simp [intOf]; omega
    · obtain rfl : k = n := by omega
      go_wp2_with (first | ((with_reducible refine wpl_absorb H ?_); clear H; (first | generalize W.heap.size = q0); (try clear W); intro W H) | ((with_reducible apply wpl_app H); (case ht => (first | exact Tryz.underlying50 )); (case hinfo => (first | exact inf_5 )); (case hw | hs | hx => rfl); (case hm => (with_reducible repeat first | exact Pull.here | apply Pull.there)); (case hzs => rfl); (case hsz => decide); (case hr => (first | (apply gives_blk; (case h => (with_reducible repeat first | exact mH)); (case hn => rfl); (case hl => omega)) )); (case h1 => first | (intro u hu; obtain rfl := List.mem_singleton.1 hu; rfl)); (case h63 => (simp only [maxLen]; omega)); (case hbytes => omega); clear H; (try clear W); intro A1 n1 c1 W hn H hle1 htop1; obtain rfl := hn.out; clear hn) )
      obtain ⟨b, rfl⟩ := own_some (H.all _ List.mem_cons_self) (Nat.succ_pos _)
      go_ret
      refine ⟨_, _, rfl, by omega, ?_⟩
      rw [List.take_of_length_le (Nat.le_of_eq Hl.out)] at H
      rw [bvs_append, show bvs [77] = [Value.int .u8 77] from rfl]
      exact Reord.use H (by ((repeat (with_reducible apply Reord.cons; (case p => (with_reducible repeat first | exact Pull.here)))); repeat (first | with_reducible exact Reord.rest | with_reducible apply Reord.drop)))
end Go.Proofs.YtdnioigcgggdbaaGreatDoor
set_option linter.unusedVariables false
set_option linter.unusedSimpArgs false
namespace Go.Proofs.YtdnioigcgggdbaaGreatDoor
open Go.RowKit

section
variable {W : World} {L L' L0 : List Ent} {R : Ending → World → Prop}
set_option maxRecDepth 100000 in
set_option maxHeartbeats 1000000 in
theorem leftB_k {b n c c2 : Nat} {A2 : Option Addr} {l : List UInt8} (hn : n ≤ 1000000) (G1 : Gives L fun w => Rd w 1 (some ⟨b, 0, none⟩) (n + 1) c (bvs (l ++ [77]))) (G2 : Gives L fun w => Rd w 1 A2 n c2 (bvs l)) (H : Holds W L) (k : ∀ w', Holds w' L → R (.returned (.bool true)) w') :
    Calls Tryz.prog 23 #[.slice (some ⟨b, 0, none⟩) n c, .slice A2 n c2] W R := by
  have hl := (G2 W H).blen
  have hle := (G1 W H).le
  have G3 : Gives L fun w => Rd w 1 (some ⟨b, 0, none⟩) n c (bvs l) := G1.imp fun w h => by
    have := h.cut 0 n c (by omega) (by omega) (by omega) (by omega)
    rw [if_neg (by omega), Option.map_some, Nat.mul_one, Nat.mul_one, Nat.sub_zero, List.drop_zero, ← bvs_take, List.take_left' hl] at this
    simpa [add_mk] using this
  have HK := Lib.hid k; clear k
  have Hl := Lib.hid hl
  have H77 := Lib.hid (show (l ++ [77])[n]?.getD 0 = (77 : UInt8) by rw [List.getElem?_append_right (by omega), hl, Nat.sub_self]; rfl)
  clear hl
  go_enter Tryz.func23, Tryz.ntmps23
  go_wp2_with (first | go_big_skip )
  go_loopw [5] (fun i wr => ∃ k : Nat, k ≤ n ∧ i = .int .i64 k ∧ Holds wr L) (fun i _ => n - (intOf i).toNat)
  case atStart => exact ⟨0, Nat.zero_le _, rfl, H⟩
  case round =>
    clear H
    obtain ⟨k, hk, rfl, H⟩ := hrel
    rename World => W
    by_cases hlt : k < n
    · have hki : (k : Int) < n := by omega
      obtain ⟨a1, o1, rfl, -⟩ := (G2 W H).at_ (by omega)
      go_wp2_with (first | go_big_skip )
      ((refine wp_region_J [] H (by kernel_rfl) ?_); clear H; (try clear W); intro W H; (apply anyJ_takeP 0 (oi := Oper.mk _ _ _ _ _ _) rfl); (case hs | hf => kernel_rfl); (case hr | hF => kernel_rfl); (case hQ => exact fun _ _ _ h => h); (case H => first | exact .inr H ); (case hy => first | (apply yields_pure rfl; intro w; first | (go_simp; with_reducible rfl) )); (try simp only [Act.put, sA, sB, sC]); (apply anyJ_takeP 1 (oi := Oper.mk _ _ _ _ _ _) rfl); (case hs | hf => kernel_rfl); (case hr | hF => kernel_rfl); (case hQ => exact fun _ _ _ h => h); (case H => first | exact .inr H ); (case hy => first | (apply yields_pure rfl; intro w; first | (go_simp; with_reducible rfl) )); (try simp only [Act.put, sA, sB, sC]); (apply anyJ_takeP 2 (oi := Oper.mk _ _ _ _ _ _) rfl); (case hs | hf => kernel_rfl); (case hr | hF => kernel_rfl); (case hQ => exact fun _ _ _ h => h); (case H => first | exact .inr H ); (case hy => first | (apply yields_pure rfl; intro w; first | (go_simp; with_reducible rfl) )); (try simp only [Act.put, sA, sB, sC]); (apply anyJ_takeP 4 (oi := Oper.mk _ _ _ _ _ _) rfl); (case hs | hf => kernel_rfl); (case hr | hF => kernel_rfl); (case hQ => exact fun _ _ _ h => h); (case H => first | exact .inr H ); (case hy => first | (apply yields_pure rfl; intro w; first | (go_simp; with_reducible rfl) )); (try simp only [Act.put, sA, sB, sC]); (apply anyJ_takeP 5 (oi := Oper.mk _ _ _ _ _ _) rfl); (case hs | hf => kernel_rfl); (case hr | hF => kernel_rfl); (case hQ => exact fun _ _ _ h => h); (case H => first | exact .inr H ); (case hy => first | (apply yields_pure rfl; intro w; first | (go_simp; with_reducible rfl) )); (try simp only [Act.put, sA, sB, sC]); (apply anyJ_takeP 6 (oi := Oper.mk _ _ _ _ _ _) rfl); (case hs | hf => kernel_rfl); (case hr | hF => kernel_rfl); (case hQ => exact fun _ _ _ h => h); (case H => first | exact .inr H ); (case hy => first | (apply yields_pure rfl; intro w; first | (go_simp; with_reducible rfl) )); (try simp only [Act.put, sA, sB, sC]); (apply anyJ_take 3 (oi := Oper.mk _ _ _ _ _ _) rfl); (case hs | hf => kernel_rfl); (case hr | hc | hF => kernel_rfl); (case hQ => exact fun _ _ _ h => h); (case H => first | exact H ); (case hy => (first | ((apply yields_loadB0); (case hs => exact sc _ rfl); (case hw | hx => rfl); (case hm => (first | assumption )); (case hj => first | assumption )) )); (try simp only [Act.put, sA, sB, sC]); (apply anyJ_take 7 (oi := Oper.mk _ _ _ _ _ _) rfl); (case hs | hf => kernel_rfl); (case hr | hc | hF => kernel_rfl); (case hQ => exact fun _ _ _ h => h); (case H => first | exact H ); (case hy => (first | ((apply yields_loadB); (case hs => exact sc _ rfl); (case hw | hx => rfl); (case hm => (first | assumption )); (case hj => first | assumption )))); (try simp only [Act.put, sA, sB, sC]); (apply anyJ_takeP 8 (oi := Oper.mk _ _ _ _ _ _) rfl); (case hs | hf => kernel_rfl); (case hr | hF => kernel_rfl); (case hQ => exact fun _ _ _ h => h); (case H => first | exact .inr H ); (case hy => first | (apply yields_pure rfl; intro w; first | (go_simp; with_reducible rfl) )); (try simp only [Act.put, sA, sB, sC]); (apply anyJ_done (by kernel_rfl)))
      go_wp2_with (first | go_big_skip )
      exact ⟨⟨k + 1, by omega, congrArg (Value.int .i64) (by omega), H⟩, by simp only [intOf]; omega⟩
    · have hkn : k = n := by omega
      subst hkn
      have hki : ¬ (k : Int) < k := by omega
      go_wp2_with (first | ((with_reducible apply wpl_loadB0 H (l := l ++ [77])); (case hs => exact sc _ rfl); (case hw | hx => rfl); (case hm => exact G1); (case hj => omega); rw [H77.out]))
      exact HK.out _ H
end
end Go.Proofs.YtdnioigcgggdbaaGreatDoor
set_option linter.unusedVariables false
set_option linter.unusedSimpArgs false
namespace Go.Proofs.YtdnioigcgggdbaaGreatDoor
open Go.RowKit

/-- l reads as n marks, long as n2: in one block, or in two. -/
def grW (w : World) (e : TypeId) (A : Option Addr) (n c : Nat) (A2 : Option Addr) (n2 c2 : Nat) (mk : Value) : Prop :=
  n ≤ n2 ∧ ((A2 = A ∧ c2 = c ∧ rowW w e A2 n2 c2 (List.replicate n2 mk)) ∨ (rowW w e A n c (List.replicate n mk) ∧ rowW w e A2 n2 c2 (List.replicate n2 mk) ∧ ∀ b, blockOf A = some b → blockOf A2 ≠ some b))
theorem rowW.kept {w w' : World} {e : TypeId} {A : Option Addr} {n c : Nat} {xs : List Value} (h : rowW w e A n c xs) (hk : ∀ b, blockOf A = some b → b < w.heap.size → w'.heap[b]? = w.heap[b]?) : rowW w' e A n c xs := by
  refine ⟨h.1, ?_⟩
  rcases h.2 with h2 | ⟨b, arr, h3, h4, r⟩
  · exact .inl h2
  · exact .inr ⟨b, arr, h3, (hk b (by rw [h3]; rfl) (Array.getElem?_eq_some_iff.1 h4).1).trans h4, r⟩
theorem rowW.lt {w : World} {e : TypeId} {A : Option Addr} {n c : Nat} {xs : List Value} (h : rowW w e A n c xs) {b : Nat} (hb : blockOf A = some b) : b < w.heap.size := by
  rcases h.2 with ⟨h2, -⟩ | ⟨b', arr, h3, h4, r⟩
  · rw [h2] at hb; cases hb
  · rw [h3] at hb
    injection hb with hb
    subst hb
    exact (Array.getElem?_eq_some_iff.1 h4).1
def grE (e : TypeId) (A : Option Addr) (n c : Nat) (A2 : Option Addr) (n2 c2 : Nat) (mk : Value) : Ent :=
  ⟨true, fun b => blockOf A = some b ∨ blockOf A2 = some b, fun w => grW w e A n c A2 n2 c2 mk,
   fun w w' hk h => by
    obtain ⟨h0, ⟨h1, h2, h3⟩ | ⟨h1, h2, h3⟩⟩ := h
    · exact ⟨h0, .inl ⟨h1, h2, h3.kept fun b hb hlt => hk.block b (.inr hb) hlt⟩⟩
    · exact ⟨h0, .inr ⟨h1.kept fun b hb hlt => hk.block b (.inl hb) hlt, h2.kept fun b hb hlt => hk.block b (.inr hb) hlt, h3⟩⟩,
   fun w h b hb => by
    obtain ⟨h0, ⟨h1, h2, h3⟩ | ⟨h1, h2, h3⟩⟩ := h
    · subst h1
      exact h3.lt (hb.elim id id)
    · rcases hb with hb | hb
      · exact h1.lt hb
      · exact h2.lt hb⟩
theorem Holds.to_gr {w : World} {L : List Ent} {e : TypeId} {A : Option Addr} {n c : Nat} {mk : Value} (H : Holds w (rowE e A n c (List.replicate n mk) :: L)) : Holds w (grE e A n c A n c mk :: L) :=
  H.set rfl (.refl _ w) ⟨Nat.le_refl _, .inl ⟨rfl, rfl, H.head⟩⟩ fun b hb => .inl (hb.elim id id)
/-- what l and long read as. -/
theorem gr_reads {w : World} {e : TypeId} {A : Option Addr} {n c : Nat} {A2 : Option Addr} {n2 c2 : Nat} {mk : Value} (h : grW w e A n c A2 n2 c2 mk) : Rd w 1 A n c (List.replicate n mk) ∧ Rd w 1 A2 n2 c2 (List.replicate n2 mk) := by
  obtain ⟨h0, ⟨h1, h2, h3⟩ | ⟨h1, h2, h3⟩⟩ := h
  · subst h1 h2
    refine ⟨row_rd (e := e) ?_, row_rd h3⟩
    refine ⟨by simp, ?_⟩
    rcases h3.2 with ⟨a1, a2, a3⟩ | ⟨b, arr, a3, a4, a5, a6, a7, a8⟩
    · exact .inl ⟨a1, by omega, a3⟩
    · refine .inr ⟨b, arr, a3, a4, by omega, a6, a7, ?_⟩
      have := congrArg (List.take n) a8
      rw [List.take_take, Nat.min_eq_left h0, List.take_replicate, Nat.min_eq_left h0] at this
      exact this
  · exact ⟨row_rd h1, row_rd h2⟩
/-- one mark more behind long. -/
theorem Holds.gr_app {P : Program} {w : World} {L : List Ent} {t ty e : TypeId} {z : Value} {bytes : Nat} (ht : P.underlying t = some (.slice e)) (hinfo : (P.info? e).map (fun i => (i.zero, i.size, i.bytes)) = some (some z, 1, bytes)) (hz1 : z.cells.size = 1) (hb : bytes ≤ 1000000)
    {A A2 : Option Addr} {n c n2 c2 q m : Nat} {mk : Value} (H : Holds w (grE e A n c A2 n2 c2 mk :: L)) (hr : Rd w 1 (some ⟨q, 0, none⟩) 1 m [mk]) (h1 : mk.oneCell' = true) (h6 : n2 ≤ 1000000) :
    ∃ A' c' w', (Builtin.append_ #[t, t] ty #[.slice A2 n2 c2, .slice (some ⟨q, 0, none⟩) 1 m]).run P w = .ok (.slice A' (n2 + 1) c') w' ∧ Holds w' (grE e A n c A' (n2 + 1) c' mk :: L) := by
  have h := H.head
  have h0 := h.1
  have hrow : rowW w e A2 n2 c2 (List.replicate n2 mk) := by
    rcases h.2 with ⟨-, -, h3⟩ | ⟨-, h3, -⟩ <;> exact h3
  obtain ⟨A', c', w', hrun, hro, hcase⟩ := run_row_app (P := P) (ty := ty) ht hinfo hz1 hb hrow hr h1 h6
  have hrep : List.replicate n2 mk ++ [mk] = List.replicate (n2 + 1) mk := by rw [List.replicate_succ']
  rw [hrep] at hro
  refine ⟨A', c', w', hrun, ?_⟩
  rcases hcase with ⟨rfl, rfl, ⟨b, hb2, hg⟩, -⟩ | ⟨hb2, hx⟩
  · refine H.set rfl ⟨hg.os, hg.tape, hg.output, hg.size, fun k hk hlt => hg.block k hlt (fun e => hk (.inr (by rw [hb2]; injection e with e; rw [e]; rfl)))⟩ ⟨by omega, ?_⟩ fun k hk => .inl hk
    rcases h.2 with ⟨e1, e2, -⟩ | ⟨e1, -, e3⟩
    · exact .inl ⟨e1, e2, hro⟩
    · refine .inr ⟨e1.kept fun k hk hlt => hg.block k hlt (fun e => ?_), hro, e3⟩
      injection e with e
      subst e
      exact e3 _ hk (by rw [hb2]; rfl)
  · refine H.set rfl ⟨hx.os, hx.tape, hx.output, hx.size, fun k _ hlt => hx.block k hlt⟩ ⟨by omega, .inr ⟨?_, hro, fun k hk hk2 => ?_⟩⟩ fun k hk => ?_
    · have := (gr_reads h).1
      rcases h.2 with ⟨e1, e2, e3⟩ | ⟨e1, -, -⟩
      · subst e1 e2
        refine (show rowW w e A2 n c2 (List.replicate n mk) from ⟨by simp, ?_⟩).kept fun k hk hlt => hx.block k hlt
        rcases e3.2 with ⟨a1, a2, a3⟩ | ⟨b, arr, a3, a4, a5, a6, a7, a8⟩
        · exact .inl ⟨a1, by omega, a3⟩
        · refine .inr ⟨b, arr, a3, a4, by omega, a6, a7, ?_⟩
          have := congrArg (List.take n) a8
          rw [List.take_take, Nat.min_eq_left h0, List.take_replicate, Nat.min_eq_left h0] at this
          exact this
      · exact e1.kept fun k hk hlt => hx.block k hlt
    · have hlt : k < w.heap.size := H.head |> fun h => (grE e A n c A2 n2 c2 mk).inb w h k (.inl hk)
      rw [hb2] at hk2
      injection hk2 with hk2
      omega
    · rcases hk with hk | hk
      · exact .inl (.inl hk)
      · rw [hb2] at hk
        injection hk with hk
        exact .inr (by omega)
/-! ### a list of entries, one of them taken out -/
theorem Holds.take_out {w : World} {L es : List Ent} {i : Nat} {x : Ent} (H : Holds w (es ++ L)) (hi : es[i]? = some x) : Holds w (x :: ((es.take i ++ es.drop (i + 1)) ++ L)) := by
  have hlt := (List.getElem?_eq_some_iff.1 hi).1
  have e : es = es.take i ++ x :: es.drop (i + 1) := by
    have h1 := (List.getElem?_eq_some_iff.1 hi).2
    rw [← h1, List.getElem_cons_drop, List.take_append_drop]
  have : (es ++ L).Perm (x :: ((es.take i ++ es.drop (i + 1)) ++ L)) := by
    conv => lhs; rw [e]
    rw [List.append_assoc, List.cons_append, List.append_assoc]
    exact List.perm_middle
  exact H.perm this
theorem Holds.put_in {w : World} {L es : List Ent} {i : Nat} {x : Ent} (H : Holds w (x :: ((es.take i ++ es.drop (i + 1)) ++ L))) (hi : i < es.length) : Holds w (es.set i x ++ L) := by
  have e : es.set i x = es.take i ++ x :: es.drop (i + 1) := by rw [List.set_eq_take_append_cons_drop, if_pos hi]
  rw [e, List.append_assoc, List.cons_append]
  rw [List.append_assoc] at H
  exact H.perm List.perm_middle.symm
end Go.Proofs.YtdnioigcgggdbaaGreatDoor
