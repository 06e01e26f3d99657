/-
  A Book over bytes: marks; keep.
-/
import Derived.Test.YtdnioigcgggdbaaGreatDoorMar
import Derived.Test.YtdnioigcgggdbaaGreatDoorMab
set_option linter.unusedVariables false
set_option linter.unusedSimpArgs false
namespace Go.Proofs.YtdnioigcgggdbaaGreatDoor
open Go.RowKit

def markB (n : Nat) : UInt8 := UInt8.ofNat n
theorem markB_val (n : Nat) : (((markB n).toNat : Nat) : Int) = (n : Int) % 256 := by
  unfold markB
  rw [UInt8.toNat_ofNat']
  omega
section
variable {W : World} {L L' L0 : List Ent} {R : Ending → World → Prop}
set_option maxRecDepth 100000 in
set_option maxHeartbeats 1000000 in
theorem mark_k {n : Nat} {N : Int} (hN : N = (n : Int)) (H : Holds W L) (k : ∀ w', Holds w' L → R (.returned (.int .u8 ((markB n).toNat : Nat))) w') : Calls Tryz.prog 108 #[.int .i64 N] W R := by
  subst hN
  rw [markB_val] at k
  have HK := Lib.hid k; clear k
  go_enter Tryz.func108, Tryz.ntmps108
  go_wp2_with (first | go_big_skip )
  exact HK.out _ H
set_option maxRecDepth 100000 in
set_option maxHeartbeats 1000000 in
theorem isB_k (x : UInt8) {n : Nat} {N : Int} (hN : N = (n : Int)) (H : Holds W L) (k : ∀ w', Holds w' L → R (.returned (.bool (x == markB n))) w') : Calls Tryz.prog 117 #[.int .u8 (x.toNat : Nat), .int .i64 N] W R := by
  subst hN
  have e : (x == markB n) = (((x.toNat : Nat) : Int) == (n : Int) % 256) := by
    rw [← markB_val, Bool.eq_iff_iff, beq_iff_eq, beq_iff_eq]
    constructor
    · intro h; rw [h]
    · intro h; exact UInt8.toNat_inj.1 (by omega)
  rw [e] at k
  clear e
  have HK := Lib.hid k; clear k
  go_enter Tryz.func117, Tryz.ntmps117
  go_wp2_with (first | go_big_skip )
  exact HK.out _ H
theorem inf_hb : (Tryz.prog.info? 121).map (fun i => (i.zero, i.size, i.bytes)) = some (some (.agg #[.slice none 0 0, .slice none 0 0, .int .i64 0]), 3, 56) := by kernel_rfl
theorem gives_one {L : List Ent} {b n : Nat} {cs : List Value} {T : TypeId} (h : blk b cs T ∈ L) (hn : cs.length = n) : Gives L fun w => Rd w n (some ⟨b, 0, none⟩) 1 1 cs := fun w H =>
  ⟨Nat.le_refl _, by simp only [maxLen]; omega, by omega, (fun h => by cases h), fun _ => ⟨b, 0, rfl, fun j _ => by rw [cell_of_row w b (0 + j) _ T (0, 0) (H.all _ h)]; simp⟩⟩
theorem hb_one {A : Option Addr} {m c : Nat} {N : Int} : ∀ u ∈ ([.slice A m c, .slice none 0 0, .int .i64 N] : List Value), u.oneCell' = true := by
  intro u hu
  simp only [List.mem_cons, List.not_mem_nil, or_false] at hu
  rcases hu with rfl | rfl | rfl <;> rfl
set_option maxRecDepth 100000 in
set_option maxHeartbeats 2000000 in
theorem keep_k {r : List Value} {g nb cb m c : Nat} {A B : Option Addr} {rows : List Value} {L1 : List Ent} (hnb : nb ≤ 10000) (H : Holds W L) (hm : Pull (blk g (.int .i64 (nb : Nat) :: .slice B nb cb :: r) 49) L L1) (hm2 : Pull (ownE 121 3 (.slice B nb cb) nb rows) L1 L0)
    (k : ∀ B' cb' w', Holds w' (blk g (.int .i64 ((nb : Int) + 1) :: .slice B' (nb + 1) cb' :: r) 49 :: ownE 121 3 (.slice B' (nb + 1) cb') (nb + 1) (rows ++ [.slice A m c, .slice none 0 0, .int .i64 ((nb : Int) + 1)]) :: L0) → R (.returned (.tuple #[])) w') :
    Calls Tryz.prog 93 #[.pointer (some ⟨g, 0, none⟩), .slice A m c] W R := by
  have HK := Lib.hid k; clear k
  have H1 := H.pull hm
  have H2 : Holds W (ownE 121 3 (.slice B nb cb) nb rows :: blk g (.int .i64 (nb : Nat) :: .slice B nb cb :: r) 49 :: L0) := H1.perm ((hm2.perm.cons _).trans (List.Perm.swap _ _ _))
  clear H H1 hm hm2
  have H := H2
  clear H2
  have hb1 := Lib.hid (own_le H.head).1
  go_enter Tryz.func93, Tryz.ntmps93
  go_wp2_with (first | ((with_reducible apply wpl_load H); (case hs => exact sc _ rfl); (case hw | hx => rfl); (case hm => (with_reducible repeat first | exact mH | apply mT)); (case hv => rfl)) | ((with_reducible apply wpl_store1 H); (case hs => exact sz_sc _ rfl); (case hw | hx => rfl); (case hy => (first | exact (rfl : _ = Value.int _ _) )); (case hm => (with_reducible repeat first | exact Upd.here | apply Upd.there)); (case h1 => rfl); (case hk => exact Nat.le_of_ble_eq_true rfl); clear H; (try clear W); intro W H; simp only [setL, List.set_cons_zero, List.set_cons_succ] at H) )
  have hlen : ∀ (X : Value) (N : Int), ([X, .slice none 0 0, .int .i64 N] : List Value).length = 3 := fun _ _ => rfl
  ((refine wp_region_J [12, 15] H (by kernel_rfl) ?_); clear H; (try clear W); intro W H; (apply anyJ_takeP 0 (oi := Oper.mk _ _ _ _ _ _) rfl); (case hs | hf => kernel_rfl); (case hr | hF => kernel_rfl); (case hQ => exact fun _ _ _ h => h); (case H => first | exact .inr H ); (case hy => first | (apply yields_pure rfl; intro w; first | (go_simp; with_reducible rfl) )); (try simp only [Act.put, sA, sB, sC]); (apply anyJ_takeP 1 (oi := Oper.mk _ _ _ _ _ _) rfl); (case hs | hf => kernel_rfl); (case hr | hF => kernel_rfl); (case hQ => exact fun _ _ _ h => h); (case H => first | exact .inr H ); (case hy => first | (apply yields_pure rfl; intro w; first | (go_simp; with_reducible rfl) )); (try simp only [Act.put, sA, sB, sC]); (apply anyJ_takeP 2 (oi := Oper.mk _ _ _ _ _ _) rfl); (case hs | hf => kernel_rfl); (case hr | hF => kernel_rfl); (case hQ => exact fun _ _ _ h => h); (case H => first | exact .inr H ); (case hy => first | (apply yields_pure rfl; intro w; first | (go_simp; with_reducible rfl) )); (try simp only [Act.put, sA, sB, sC]); (apply anyJ_takeP 3 (oi := Oper.mk _ _ _ _ _ _) rfl); (case hs | hf => kernel_rfl); (case hr | hF => kernel_rfl); (case hQ => exact fun _ _ _ h => h); (case H => first | exact .inr H ); (case hy => first | (apply yields_pure rfl; intro w; first | (go_simp; with_reducible rfl) )); (try simp only [Act.put, sA, sB, sC]); (apply anyJ_takeP 5 (oi := Oper.mk _ _ _ _ _ _) rfl); (case hs | hf => kernel_rfl); (case hr | hF => kernel_rfl); (case hQ => exact fun _ _ _ h => h); (case H => first | exact .inr H ); (case hy => first | (apply yields_pure rfl; intro w; first | (go_simp; with_reducible rfl) )); (try simp only [Act.put, sA, sB, sC]); (apply anyJ_takeP 6 (oi := Oper.mk _ _ _ _ _ _) rfl); (case hs | hf => kernel_rfl); (case hr | hF => kernel_rfl); (case hQ => exact fun _ _ _ h => h); (case H => first | exact .inr H ); (case hy => first | (apply yields_pure rfl; intro w; first | (go_simp; with_reducible rfl) )); (try simp only [Act.put, sA, sB, sC]); (apply anyJ_takeP 7 (oi := Oper.mk _ _ _ _ _ _) rfl); (case hs | hf => kernel_rfl); (case hr | hF => kernel_rfl); (case hQ => exact fun _ _ _ h => h); (case H => first | exact .inr H ); (case hy => first | (apply yields_pure rfl; intro w; first | (go_simp; with_reducible rfl) )); (try simp only [Act.put, sA, sB, sC]); (apply anyJ_takeP 8 (oi := Oper.mk _ _ _ _ _ _) rfl); (case hs | hf => kernel_rfl); (case hr | hF => kernel_rfl); (case hQ => exact fun _ _ _ h => h); (case H => first | exact .inr H ); (case hy => first | (apply yields_pure rfl; intro w; first | (go_simp; with_reducible rfl) )); (try simp only [Act.put, sA, sB, sC]); (apply anyJ_take 4 (oi := Oper.mk _ _ _ _ _ _) rfl); (case hs | hf => kernel_rfl); (case hr | hc | hF => kernel_rfl); (case hQ => exact fun _ _ _ h => h); (case H => first | exact H ); (case hy => (first | ((apply yields_load); (case hs => exact sc _ rfl); (case hw | hx => rfl); (case hm => (with_reducible repeat first | exact mH | apply mT)); (case hv => rfl)) )); (try simp only [Act.put, sA, sB, sC]); (apply anyJ_take 9 (oi := Oper.mk _ _ _ _ _ _) rfl); (case hs | hf => kernel_rfl); (case hr | hc | hF => kernel_rfl); (case hQ => exact fun _ _ _ h => h); (case H => first | exact H ); (case hy => (first | ((apply yields_load); (case hs => exact sc _ rfl); (case hw | hx => rfl); (case hm => (with_reducible repeat first | exact mH | apply mT)); (case hv => rfl)) )); (try simp only [Act.put, sA, sB, sC]); (apply anyJ_takeP 10 (oi := Oper.mk _ _ _ _ _ _) rfl); (case hs | hf => kernel_rfl); (case hr | hF => kernel_rfl); (case hQ => exact fun _ _ _ h => h); (case H => first | exact .inr H ); (case hy => first | (apply yields_pure rfl; intro w; first | (go_simp; with_reducible rfl) )); (try simp only [Act.put, sA, sB, sC]); (apply anyJ_one 11 (o := Oper.mk _ _ _ _ _ _)); (case hr => kernel_rfl); (case hi | hw => rfl); intro K hK; (first | (first | ((with_reducible apply opw_slice1 (vs := [.slice A m c, .slice none 0 0, .int .i64 ((nb : Int) + 1)]) H); (case hx => rfl); (case ht => exact Tryz.underlying39); (case hinfo => exact inf_hb); (case hzs | hl => rfl); (case h0 | h24 => decide); clear H; (try clear W); intro q2 W H) ) ); (refine hK.out _ _ ?_ ?_); (· first | exact .inr (Reord.use H (by ((repeat (with_reducible apply Reord.cons; (case p => (with_reducible repeat first | exact Pull.here | apply Pull.there)))); repeat (first | with_reducible exact Reord.rest | with_reducible apply Reord.drop))))); clear hK K; (try simp only [Act.put, sA, sB, sC]); (apply anyJ_one 12 (o := Oper.mk _ _ _ _ _ _)); (case hr => kernel_rfl); (case hi | hw => rfl); intro K hK; (first | (first | ((with_reducible apply opw_app H); (case ht => exact Tryz.underlying39); (case hinfo => exact inf_hb); (case hs | hx => rfl); (case hm => (with_reducible repeat first | exact Pull.here | apply Pull.there)); (case hzs => rfl); (case hsz => decide); (case hr => exact gives_one (cs := [.slice A m c, .slice none 0 0, .int .i64 ((nb : Int) + 1)]) (by (with_reducible repeat first | exact mH)) rfl); (case h1 => exact hb_one); (case h63 => (simp only [maxLen]; omega)); (case hbytes => omega); clear H; (try clear W); intro A1 n1 c1 W hn1 H hle1 htop1; obtain rfl := hn1.out; clear hn1)) ); (refine hK.out _ _ ?_ ?_); (· first | exact .inl rfl ); clear hK K; (try simp only [Act.put, sA, sB, sC]); (apply anyJ_takeP 13 (oi := Oper.mk _ _ _ _ _ _) rfl); (case hs | hf => kernel_rfl); (case hr | hF => kernel_rfl); (case hQ => exact fun _ _ _ h => h); (case H => first | exact .inl rfl ); (case hy => first | (apply yields_pure rfl; intro w; first | (go_simp; with_reducible rfl) )); (try simp only [Act.put, sA, sB, sC]); (apply anyJ_takeP 14 (oi := Oper.mk _ _ _ _ _ _) rfl); (case hs | hf => kernel_rfl); (case hr | hF => kernel_rfl); (case hQ => exact fun _ _ _ h => h); (case H => first | exact .inl rfl ); (case hy => first | (apply yields_pure rfl; intro w; first | (go_simp; with_reducible rfl) )); (try simp only [Act.put, sA, sB, sC]); (apply anyJ_one 15 (o := Oper.mk _ _ _ _ _ _)); (case hr => kernel_rfl); (case hi | hw => rfl); intro K hK; (first | ((with_reducible apply opw_store1 H); (case hs => exact sz_sc _ rfl); (case hx => rfl); (case hy => (first | exact (rfl : _ = Value.slice _ _ _) )); (case hm => (with_reducible repeat first | exact Upd.here | apply Upd.there)); (case h1 => rfl); (case hk => exact Nat.le_of_ble_eq_true rfl); clear H; (try clear W); intro W H; simp only [setL, List.set_cons_zero, List.set_cons_succ] at H) ); (refine hK.out _ _ ?_ ?_); (· first | exact .inl rfl ); clear hK K; (try simp only [Act.put, sA, sB, sC]); (apply anyJ_done (by kernel_rfl)))
  go_wp2_with (first | go_big_skip )
  go_end0
  exact HK.out _ _ _ (Reord.use H (by ((repeat (with_reducible apply Reord.cons; (case p => (with_reducible repeat first | exact Pull.here | apply Pull.there)))); repeat (first | with_reducible exact Reord.rest | with_reducible apply Reord.drop))))
/-- what the fill of one slice leaves behind j marks. -/
def filled (mk : Value) (xs : List Value) (j : Nat) : List Value := List.replicate j mk ++ xs.drop j
theorem filled_set {mk : Value} {xs : List Value} {j : Nat} (h : j < xs.length) : (filled mk xs j).set j mk = filled mk xs (j + 1) := by
  unfold filled
  rw [List.set_append_right _ _ (by simp), List.length_replicate, Nat.sub_self, List.drop_eq_getElem_cons h, List.set_cons_zero, List.replicate_succ', List.append_assoc]
  rfl
theorem filled_all {mk : Value} {xs : List Value} {n : Nat} (h : xs.length = n) : filled mk xs n = List.replicate n mk := by
  unfold filled
  rw [List.drop_of_length_le (by omega), List.append_nil]
theorem filled_none (mk : Value) (xs : List Value) : filled mk xs 0 = xs := by unfold filled; simp
/-- a store of one cell into such a slice, in a region that draws its order. -/
theorem opw_row {P : Program} {a : Act} {w : World} {K : Act → World → Prop} {Q : Exit → Act → World → Prop} {dst : Option Tmp} {T : TypeId} {x y : Operand} {ty : TypeId} {pos : String} {after : Array Edge} {gd : Option (Nat × Bool)} {L L1 : List Ent} (H : Holds w L)
    {b k : Nat} (hx : a.eval x = .pointer (some ⟨b, k, none⟩)) {v : Value} (hy : a.eval y = v) (h1 : v.oneCell' = true) {e : TypeId} {n c : Nat} {xs : List Value} (hm : Pull (rowE e (some ⟨b, 0, none⟩) n c xs) L L1) (hs : SizeIs P T 1) (hk : k < n)
    (h : ∀ w', Holds w' (rowE e (some ⟨b, 0, none⟩) n c (xs.set k v) :: L1) → K (a.put dst undef) w') : Oper.wp P ⟨dst, .store T x y, ty, pos, after, gd⟩ a w K Q := by
  obtain ⟨h2, h3⟩ := (H.pull hm).row_set (v := v) hk
  refine opw_skip (w' := w.setCells b k [v]) ?_ (h _ h3)
  have hc : (a.eval y).cells = [v].toArray := by rw [hy]; cases v <;> first | rfl | simp [Value.oneCell'] at h1
  have hr := run_storeVar_mid (P := P) w b k T [v].toArray (by simpa using h2) (by unfold SizeIs at hs; simpa using hs) (by simp [h1])
  have he : ∀ A : Addr, storeVar T A (a.eval y) = storeVar T A (.agg [v].toArray) := fun A => by unfold storeVar; rw [hc]; rfl
  unfold execOp
  simp only [hx, Instr.storeAt, Instr.sureAddr, Sem.run_bind, Sem.run_pure, Result.andThen_ok, he, hr]
end
end Go.Proofs.YtdnioigcgggdbaaGreatDoor
