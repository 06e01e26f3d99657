/-
  The references' numbers: almonerref01.Put.
  The references' numbers: almonerref01.Get.
  The references' sums: almonerref04.On and Of.
-/
import Derived.Test.YtdnioigcgggdbaaGreatDoorMam
import Derived.Test.YtdnioigcgggdbaaGreatDoorMab
import Derived.Test.YtdnioigcgggdbaaGreatDoorMah
set_option linter.unusedVariables false
set_option linter.unusedSimpArgs false
namespace Go.Proofs.YtdnioigcgggdbaaGreatDoor
open Go.RowKit

section
variable {W : World} {L L' L0 : List Ent} {R : Ending → World → Prop}
theorem digit_ref {x P : Nat} (hx : x < 18446744073709551616) : (IntKind.u64.wrap ((x : Int) / (P : Int))).tmod 256 % 256 = (((UInt8.ofNat (x / P)).toNat : Nat) : Int) := by
  have h1 : (x : Int) / (P : Int) = ((x / P : Nat) : Int) := by simp
  have h2 : x / P ≤ x := Nat.div_le_self _ _
  rw [h1]
  generalize x / P = d at *
  rw [wrap_u64_small (by omega) (by omega), Int.tmod_eq_emod_of_nonneg (by omega), UInt8.toNat_ofNat']
  omega
set_option maxRecDepth 100000 in
set_option maxHeartbeats 2000000 in
theorem rPut_k {A : Option Addr} {m c x b : Nat} {X K : Int} {l : List UInt8} (hX : X = (x : Int)) (hx : x < 18446744073709551616) (hK : K = (b : Int)) (hb : b ≤ 8) (hm : m ≤ 1000000) (G : Gives L fun w => Rd w 1 A m c (bvs l)) (H : Holds W L)
    (k : ∀ A' m' c' w', m' = m + b → Holds w' (ownE 5 1 (.slice A' m' c') m' (bvs (l ++ be b x)) :: L) → R (.returned (.slice A' m' c')) w') :
    Calls Tryz.prog 107 #[.slice A m c, .int .u64 X, .int .i64 K] W R := by
  subst hX hK
  have HG := Lib.hid G
  have hle := (G W H).le
  clear G
  have HK := Lib.hid k; clear k
  go_enter Tryz.func107, Tryz.ntmps107
  go_wp2_with (first | ((with_reducible apply wpl_app (H.add_nil 5 1)); (case ht => exact Tryz.underlying50); (case hinfo => exact inf_5); (case hw | hs | hx => rfl); (case hm => exact Pull.here); (case hzs => rfl); (case hsz => decide); (case hr => exact HG.out.cons); (case h1 => exact bvs_oneCell _); (case h63 => (simp only [maxLen]; omega)); (case hbytes => omega); clear H; (try clear W); intro A1 n1 c1 W hn H hle1 htop1; obtain rfl : n1 = m := (by have := hn.out; omega); clear hn; rw [List.nil_append] at H))
  go_loopw [7, 8] (fun t i wr => ∃ (j : Nat) (A' : Option Addr) (c' : Nat), j ≤ b ∧ t = .slice A' (n1 + j) c' ∧ i = .int .i64 ((b : Int) - 1 - (j : Int)) ∧ Holds wr (ownE 5 1 (.slice A' (n1 + j) c') (n1 + j) (bvs (l ++ (be b x).take j)) :: L)) (fun _ i _ => (intOf i + 1).toNat)
  case atStart => exact ⟨0, A1, c1, Nat.zero_le _, rfl, congrArg (Value.int .i64) (by omega), by rw [List.take_zero, List.append_nil]; exact H⟩
  case round =>
    clear H
    obtain ⟨j, A', c', hj, rfl, rfl, H⟩ := hrel
    rename World => W
    by_cases hlt : j < b
    · have hki : 0 ≤ (b : Int) - 1 - (j : Int) := by omega
      have hpos : 0 < 256 ^ (b - 1 - j) := Nat.pow_pos (by decide)
      have hple := pow_le7 (k := b - 1 - j) (by omega)
      have Htk := Lib.hid (take_be x b j hlt)
      have Hq : Hid (256 ^ (b - 1 - j) = 256 ^ (b - 1 - j)) := Lib.hid rfl
      generalize hP : 256 ^ (b - 1 - j) = P at Htk hpos hple
      have HP := Lib.hid hP
      clear hP Hq
      go_wp2_with (first | ((with_reducible refine wpl_absorb H ?_); clear H; (first  | generalize W.heap.size = q0); (try clear W); intro W H) | ((with_reducible apply wpl_app H); (case ht => (first | exact Tryz.underlying50 )); (case hinfo => (first | exact inf_5 )); (case hw | hs | hx => rfl); (case hm => (with_reducible repeat first | exact Pull.here | apply Pull.there)); (case hzs => rfl); (case hsz => decide); (case hr => (first | (apply gives_blk; (case h => (with_reducible repeat first | exact mH)); (case hn => rfl); (case hl => omega)) )); (case h1 => first | (intro u hu; obtain rfl := List.mem_singleton.1 hu; rfl)); (case h63 => (simp only [maxLen]; omega)); (case hbytes => omega); clear H; (try clear W); intro A1 n1 c1 W hn H hle1 htop1; obtain rfl := hn.out; clear hn) | ((with_reducible apply power_k (m := b - 1 - j)); (case H => exact H); (case hM | hm => omega); clear H; (try clear W); intro W H; rw [HP.out]))
      rw [digit_ref hx, show ([Value.int .u8 (((UInt8.ofNat (x / P)).toNat : Nat) : Int)] : List Value) = bvs [UInt8.ofNat (x / P)] from rfl, ← bvs_append, List.append_assoc, Htk.out, Nat.add_assoc n1 j 1] at H
      exact ⟨⟨j + 1, _, _, by omega, rfl, congrArg (Value.int .i64) (by omega), Reord.use H (by ((repeat (with_reducible apply Reord.cons; (case p => (with_reducible repeat first | exact Pull.here)))); repeat (first | with_reducible exact Reord.rest | with_reducible apply Reord.drop)))⟩, by simp only [intOf]; omega⟩
    · have hjb : j = b := by omega
      subst hjb
      have hki : ¬ 0 ≤ (j : Int) - 1 - (j : Int) := by omega
      rw [List.take_of_length_le (by rw [be_length]; omega)] at H
      go_wp2_with (first | go_big_skip )
      exact HK.out _ _ _ _ rfl H
end
end Go.Proofs.YtdnioigcgggdbaaGreatDoor
set_option linter.unusedVariables false
set_option linter.unusedSimpArgs false
namespace Go.Proofs.YtdnioigcgggdbaaGreatDoor
open Go.RowKit

/-- (named yields_rem's kin so that t.py hands it to binOp) a difference that does not leave the range. -/
theorem yields_rem_sub {P : Program} {ops : Array Oper} {J : World → Prop} {a : Act} {dst : Option Tmp} {x y : Operand} {T T2 ty : TypeId} {pos : String} {after : Array Edge} {gd : Option (Nat × Bool)} {X Y r : Int} (hw : Region.wanted ⟨dst, .binOp .sub T x y T2, ty, pos, after, gd⟩ (yielded ops a.tmps) = true) (hx : a.eval x = .int .i64 X) (hy : a.eval y = .int .i64 Y) (hr : IntKind.i64.wrap (X - Y) = r) :
    YieldsIf P ops J ⟨dst, .binOp .sub T x y T2, ty, pos, after, gd⟩ (.int .i64 r) a := .inl ⟨hw, fun w _ => by
  have hg : ∀ u v : Value, eqGuard .sub T x y u v = pure () := fun _ _ => rfl
  have hb : binOp .sub T (.int .i64 X) (.int .i64 Y) = pure (.int .i64 (IntKind.i64.wrap (X - Y))) := rfl
  unfold execOp
  simp [hx, hy, hb, hg, hr]⟩
section
variable {W : World} {L L' L0 : List Ent} {R : Ending → World → Prop}
set_option maxRecDepth 100000 in
set_option maxHeartbeats 2000000 in
theorem rGet_k {A : Option Addr} {m c b : Nat} {K : Int} {l : List UInt8} (hK : K = (b : Int)) (hb : b ≤ 8) (hbm : b ≤ m) (hm : m ≤ 1000000) (G : Gives L fun w => Rd w 1 A m c (bvs l)) (H : Holds W L)
    (k : ∀ w', Holds w' L → R (.returned (.tuple #[.int .u64 (ofBe (l.take b) : Nat), .int .i64 0])) w') :
    Calls Tryz.prog 99 #[.slice A m c, .int .i64 K] W R := by
  subst hK
  have HG := Lib.hid G
  have Hl := Lib.hid (G W H).blen
  have hle := (G W H).le
  clear G
  have HK := Lib.hid k; clear k
  have hmd : decide (m < b) = false := decide_eq_false (by omega)
  have hb0 : decide ((b : Int) < 0) = false := decide_eq_false (by omega)
  have hb8 : decide ((8 : Int) < (b : Int)) = false := decide_eq_false (by omega)
  go_enter Tryz.func99, Tryz.ntmps99
  go_wp2_with (first | go_big_skip )
  go_loopw [6, 7] (fun t i wr => ∃ (j v : Nat), j ≤ b ∧ Hid (v = ofBe ((l.take b).drop (b - j))) ∧ t = .int .u64 (v : Nat) ∧ i = .int .i64 j ∧ Holds wr L) (fun _ i _ => b - (intOf i).toNat)
  case atStart => exact ⟨0, 0, Nat.zero_le _, Lib.hid (by rw [Nat.sub_zero, List.drop_of_length_le (by rw [List.length_take]; omega)]; rfl), rfl, rfl, H⟩
  case round =>
    clear H
    obtain ⟨j, v, hj, Hv, rfl, rfl, H⟩ := hrel
    rename World => W
    by_cases hlt : j < b
    · have hki : (j : Int) < b := by omega
      obtain ⟨i, hi⟩ : ∃ i, i = b - 1 - j := ⟨_, rfl⟩
      have him : i < m := by omega
      have himi : (i : Int) < m := by omega
      have E1 := Lib.hid (wrapI (x := (b : Int) - 1) (by omega) (by omega))
      have E2 := Lib.hid (show IntKind.i64.wrap ((b : Int) - 1 - (j : Int)) = (i : Int) by rw [wrapI (by omega) (by omega)]; omega)
      obtain ⟨a1, o1, rfl, -⟩ := (HG.out W H).at_ (by omega)
      have Hi := Lib.hid hi
      clear hi
      go_wp2_with (first | go_big_skip )
      ((refine wp_region_J [] H (by kernel_rfl) ?_); clear H; (try clear W); intro W H; (apply anyJ_takeP 0 (oi := Oper.mk _ _ _ _ _ _) rfl); (case hs | hf => kernel_rfl); (case hr | hF => kernel_rfl); (case hQ => exact fun _ _ _ h => h); (case H => first | exact .inr H ); (case hy => first | (apply yields_pure rfl; intro w; first | (go_simp; with_reducible rfl) )); (try simp only [Act.put, sA, sB, sC]); (apply anyJ_takeP 1 (oi := Oper.mk _ _ _ _ _ _) rfl); (case hs | hf => kernel_rfl); (case hr | hF => kernel_rfl); (case hQ => exact fun _ _ _ h => h); (case H => first | exact .inr H ); (case hy => first | (apply yields_pure rfl; intro w; first | (go_simp; with_reducible rfl) )); (try simp only [Act.put, sA, sB, sC]); (apply anyJ_takeP 2 (oi := Oper.mk _ _ _ _ _ _) rfl); (case hs | hf => kernel_rfl); (case hr | hF => kernel_rfl); (case hQ => exact fun _ _ _ h => h); (case H => first | exact .inr H ); (case hy => first | (apply yields_pure rfl; intro w; first | (go_simp; with_reducible rfl) )); (try simp only [Act.put, sA, sB, sC]); (apply anyJ_takeP 3 (oi := Oper.mk _ _ _ _ _ _) rfl); (case hs | hf => kernel_rfl); (case hr | hF => kernel_rfl); (case hQ => exact fun _ _ _ h => h); (case H => first | exact .inr H ); (case hy => first | (first | ((apply yields_rem_sub (r := (b : Int) - 1)); (case hx | hy | hw => rfl); (case hr => with_reducible exact E1.out)) ) ); (try simp only [Act.put, sA, sB, sC]); (apply anyJ_takeP 4 (oi := Oper.mk _ _ _ _ _ _) rfl); (case hs | hf => kernel_rfl); (case hr | hF => kernel_rfl); (case hQ => exact fun _ _ _ h => h); (case H => first | exact .inr H ); (case hy => first | (apply yields_pure rfl; intro w; first | (go_simp; with_reducible rfl) )); (try simp only [Act.put, sA, sB, sC]); (apply anyJ_takeP 5 (oi := Oper.mk _ _ _ _ _ _) rfl); (case hs | hf => kernel_rfl); (case hr | hF => kernel_rfl); (case hQ => exact fun _ _ _ h => h); (case H => first | exact .inr H ); (case hy => first | (first | ((apply yields_rem_sub (r := (i : Int))); (case hx | hy | hw => rfl); (case hr => with_reducible exact E2.out))) ); (try simp only [Act.put, sA, sB, sC]); (apply anyJ_takeP 6 (oi := Oper.mk _ _ _ _ _ _) rfl); (case hs | hf => kernel_rfl); (case hr | hF => kernel_rfl); (case hQ => exact fun _ _ _ h => h); (case H => first | exact .inr H ); (case hy => first | (apply yields_pure rfl; intro w; first | (go_simp; with_reducible rfl) )); (try simp only [Act.put, sA, sB, sC]); (apply anyJ_takeP 9 (oi := Oper.mk _ _ _ _ _ _) rfl); (case hs | hf => kernel_rfl); (case hr | hF => kernel_rfl); (case hQ => exact fun _ _ _ h => h); (case H => first | exact .inr H ); (case hy => first | (apply yields_pure rfl; intro w; first | (go_simp; with_reducible rfl) )); (try simp only [Act.put, sA, sB, sC]); (apply anyJ_take 7 (oi := Oper.mk _ _ _ _ _ _) rfl); (case hs | hf => kernel_rfl); (case hr | hc | hF => kernel_rfl); (case hQ => exact fun _ _ _ h => h); (case H => first | exact H ); (case hy => (first | ((apply yields_loadB (l := l)); (case hs => exact sc _ rfl); (case hx | hw => rfl); (case hm => exact HG.out); (case hj => exact him)) )); (try simp only [Act.put, sA, sB, sC]); (apply anyJ_takeP 8 (oi := Oper.mk _ _ _ _ _ _) rfl); (case hs | hf => kernel_rfl); (case hr | hF => kernel_rfl); (case hQ => exact fun _ _ _ h => h); (case H => first | exact .inr H ); (case hy => first | (apply yields_pure rfl; intro w; first | (go_simp; with_reducible rfl) )); (try simp only [Act.put, sA, sB, sC]); (apply anyJ_one 10 (o := Oper.mk _ _ _ _ _ _)); (case hr => kernel_rfl); (case hi | hw => rfl); intro K hK; (first | (go_simp; (with_reducible apply power_k (m := j)); (case H => exact H); (case hM => rfl); (case hm => omega); clear H; (try clear W); intro W H) ); (refine hK.out _ _ ?_ ?_); (· first | exact .inr H ); clear hK K; (try simp only [Act.put, sA, sB, sC]); (apply anyJ_takeP 11 (oi := Oper.mk _ _ _ _ _ _) rfl); (case hs | hf => kernel_rfl); (case hr | hF => kernel_rfl); (case hQ => exact fun _ _ _ h => h); (case H => first | exact .inr H ); (case hy => first | (apply yields_pure rfl; intro w; first | (go_simp; with_reducible rfl) )); (try simp only [Act.put, sA, sB, sC]); (apply anyJ_takeP 12 (oi := Oper.mk _ _ _ _ _ _) rfl); (case hs | hf => kernel_rfl); (case hr | hF => kernel_rfl); (case hQ => exact fun _ _ _ h => h); (case H => first | exact .inr H ); (case hy => first | (apply yields_pure rfl; intro w; first | (go_simp; with_reducible rfl) )); (try simp only [Act.put, sA, sB, sC]); (apply anyJ_takeP 13 (oi := Oper.mk _ _ _ _ _ _) rfl); (case hs | hf => kernel_rfl); (case hr | hF => kernel_rfl); (case hQ => exact fun _ _ _ h => h); (case H => first | exact .inr H ); (case hy => first | (apply yields_pure rfl; intro w; first | (go_simp; with_reducible rfl) )); (try simp only [Act.put, sA, sB, sC]); (apply anyJ_done (by kernel_rfl)))
      have hstep := get_step l b j hlt (by rw [Hl.out]; exact hbm)
      rw [← Hv.out, ← Hi.out] at hstep
      have hbyte := (l[i]?.getD 0).toNat_lt
      have hlt64 : ofBe ((l.take b).drop (b - (j + 1))) < 18446744073709551616 := by
        have h1 := ofBe_lt ((l.take b).drop (b - (j + 1)))
        have h2 : ((l.take b).drop (b - (j + 1))).length ≤ 8 := by rw [List.length_drop, List.length_take]; omega
        exact Nat.lt_of_lt_of_le h1 (Nat.pow_le_pow_right (n := 256) (by decide) h2)
      generalize hby : (l[i]?.getD 0).toNat = y at *
      have hval : IntKind.u64.wrap ((v : Int) + IntKind.u64.wrap (IntKind.u64.wrap (y : Int) * ((256 ^ j : Nat) : Int))) = ((ofBe ((l.take b).drop (b - (j + 1))) : Nat) : Int) := by
        rw [hstep] at hlt64 ⊢
        rw [wrap_u64_small (x := (y : Int)) (by omega) (by omega), show (y : Int) * ((256 ^ j : Nat) : Int) = ((y * 256 ^ j : Nat) : Int) by simp, wrap_u64_small (x := ((y * 256 ^ j : Nat) : Int)) (by omega) (by omega), wrap_u64_small (by omega) (by omega)]
        omega
      have Hval := Lib.hid hval
      clear hval hstep hlt64
      go_wp2_with (first | go_big_skip )
      refine ⟨⟨j + 1, _, by omega, Lib.hid rfl, ?_, ?_, H⟩, by simp only [intOf]; omega⟩
      · exact congrArg (Value.int .u64) Hval.out
      · exact congrArg (Value.int .i64) (by omega)
    · have hjb : j = b := by omega
      subst hjb
      have hki : ¬ (j : Int) < j := by omega
      rw [Nat.sub_self, List.drop_zero] at Hv
      rw [← Hv.out] at HK
      clear Hv
      go_wp2_with (first | go_big_skip )
      exact HK.out _ H
end
end Go.Proofs.YtdnioigcgggdbaaGreatDoor
set_option linter.unusedVariables false
set_option linter.unusedSimpArgs false
namespace Go.Proofs.YtdnioigcgggdbaaGreatDoor
open Go.RowKit

section
variable {W : World} {L L' L0 : List Ent} {R : Ending → World → Prop}
theorem adRun_snoc (p : Nat × Nat) (l : List UInt8) (c : UInt8) : adRun p (l ++ [c]) = adStep (adRun p l) c := by unfold adRun; rw [List.foldl_append]; rfl
set_option maxRecDepth 100000 in
set_option maxHeartbeats 1000000 in
theorem rOn_k {A : Option Addr} {n c s : Nat} {S : Int} {l : List UInt8} (hS : S = (s : Int)) (hs : s < 4294967296) (hn : n ≤ 1000000) (G : Gives L fun w => Rd w 1 A n c (bvs l)) (H : Holds W L) (k : ∀ w', Holds w' L → R (.returned (.int .u32 (onF s l : Nat))) w') :
    Calls Tryz.prog 129 #[.int .u32 S, .slice A n c] W R := by
  subst hS
  have hl := Lib.hid (G W H).blen
  have hle := (G W H).le
  have HK := Lib.hid k; clear k
  have hp : ((s : Int) % 65536 % 65521 = ((ad0 s).1 : Nat)) ∧ ((s : Int) / 65536 % 65521 = ((ad0 s).2 : Nat)) := by
    unfold ad0 adM
    simp only
    omega
  have h0 := ad0_lt s
  go_enter Tryz.func129, Tryz.ntmps129
  go_wp2_with (first | go_big_skip )
  go_loopw [5, 6, 7] (fun x y i wr => ∃ k : Nat, k ≤ n ∧ x = .int .u32 ((adRun (ad0 s) (l.take k)).1 : Nat) ∧ y = .int .u32 ((adRun (ad0 s) (l.take k)).2 : Nat) ∧ i = .int .i64 k ∧ Holds wr L) (fun _ _ i _ => n - (intOf i).toNat)
  case atStart => exact ⟨0, Nat.zero_le _, by rw [List.take_zero]; exact congrArg (Value.int .u32) hp.1, by rw [List.take_zero]; exact congrArg (Value.int .u32) hp.2, rfl, H⟩
  case round =>
    clear H
    obtain ⟨k, hk, rfl, rfl, rfl, H⟩ := hrel
    rename World => W
    have hb := adRun_lt (l.take k) (ad0 s) h0.1 h0.2
    by_cases hlt : k < n
    · have hlk : k < l.length := by rw [hl.out]; exact hlt
      have hst : adRun (ad0 s) (l.take (k + 1)) = adStep (adRun (ad0 s) (l.take k)) l[k] := by
        rw [List.take_add_one, List.getElem?_eq_getElem hlk]
        exact adRun_snoc _ _ _
      have Hst := Lib.hid hst
      have hc := (l[k]).toNat_lt
      clear hst
      generalize adRun (ad0 s) (l.take k) = p at *
      obtain ⟨x1, y1⟩ := p
      unfold adM at hb
      simp only at hb
      have hki : (k : Int) < n := by omega
      have h0' := Lib.hid h0
      have hp' := Lib.hid hp
      clear h0 hp
      obtain ⟨a1, o1, rfl, -⟩ := (G W H).at_ (by omega)
      go_wp2_with (first | ((with_reducible apply wpl_loadB H); (case hs => exact sc _ rfl); (case hw | hx => rfl); (case hm => (first | assumption )); (case hj => first | assumption )) )
      refine ⟨⟨k + 1, by omega, ?_, ?_, congrArg (Value.int .i64) (by omega), H⟩, by simp only [intOf]; omega⟩
      · rw [Hst.out]
        exact congrArg (Value.int .u32) (by unfold adStep adM; simp only; omega)
      · rw [Hst.out]
        exact congrArg (Value.int .u32) (by unfold adStep adM; simp only; omega)
    · have hkn : k = n := by omega
      subst hkn
      rw [List.take_of_length_le (Nat.le_of_eq hl.out)] at hb ⊢
      have hon : onF s l = adOut (adRun (ad0 s) l) := rfl
      rw [hon] at HK
      clear hon
      generalize adRun (ad0 s) l = p at *
      obtain ⟨x1, y1⟩ := p
      unfold adM at hb
      unfold adOut at HK
      simp only at hb HK
      have h0' := Lib.hid h0
      have hp' := Lib.hid hp
      clear h0 hp
      have hki : ¬ (k : Int) < k := by omega
      go_wp2_with (first | go_big_skip )
      have := HK.out _ H
      exact this
end
end Go.Proofs.YtdnioigcgggdbaaGreatDoor
