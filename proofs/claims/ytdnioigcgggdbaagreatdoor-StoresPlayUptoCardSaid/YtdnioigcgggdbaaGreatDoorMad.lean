/-
  A store of one cell into a row of the call's own, in a region that draws its order; xor of bytes.
  disks: contracts of Turn.
-/
import Derived.Test.YtdnioigcgggdbaaGreatDoorMab
import Derived.Test.YtdnioigcgggdbaaGreatDoorMac
import Derived.Laws.BitsAllLaws
import Derived.Test.YtdnioigcgggdbaaGreatDoorDk4
set_option linter.unusedVariables false
set_option linter.unusedSimpArgs false
namespace Go.Proofs.YtdnioigcgggdbaaGreatDoor
open Go.RowKit

theorem xor_byte (x z : UInt8) : bits .xor .u8 ((x.toNat : Nat) : Int) ((z.toNat : Nat) : Int) = (((x ^^^ z).toNat : Nat) : Int) := by
  rw [u8_xor_nat _ _ x.toNat_lt z.toNat_lt, UInt8.toNat_xor]
theorem opw_storeC {P : Program} {a : Act} {w : World} {K : Act → World → Prop} {Q : Exit → Act → World → Prop} {dst : Option Tmp} {T : TypeId} {x y : Operand} {ty : TypeId} {pos : String} {after : Array Edge} {gd : Option (Nat × Bool)} {L L' : List Ent} (H : Holds w L)
    {b k : Nat} (hx : a.eval x = .pointer (some ⟨b, k, none⟩)) {v : Value} (hy : a.eval y = v) (h1 : v.oneCell' = true)
    {e : TypeId} {size n n' cap : Nat} {xs : List Value} (hm : Upd (ownE e size (.slice (some ⟨b, 0, none⟩) n cap) n' xs) (ownE e size (.slice (some ⟨b, 0, none⟩) n cap) n' (setL xs k [v])) L L') (hs : SizeIs P T 1) (hk : k + 1 ≤ xs.length)
    (h : ∀ w', Holds w' L' → K (a.put dst undef) w') : Oper.wp P ⟨dst, .store T x y, ty, pos, after, gd⟩ a w K Q := by
  have hw := H.writeO hm hk
  refine opw_skip (w' := w.setCells b k [v]) ?_ (h _ hw.2)
  have hc : (a.eval y).cells = [v].toArray := by rw [hy]; cases v <;> first | rfl | simp [Value.oneCell'] at h1
  have hr := run_storeVar_mid (P := P) w b k T [v].toArray (by simpa using hw.1) (by unfold SizeIs at hs; simpa using hs) (by simp [h1])
  have he : ∀ A : Addr, storeVar T A (a.eval y) = storeVar T A (.agg [v].toArray) := fun A => by unfold storeVar; rw [hc]; rfl
  unfold execOp
  simp only [hx, Instr.storeAt, Instr.sureAddr, Sem.run_bind, Sem.run_pure, Result.andThen_ok, he, hr]
end Go.Proofs.YtdnioigcgggdbaaGreatDoor
set_option linter.unusedVariables false
set_option linter.unusedSimpArgs false
namespace Go.Proofs.YtdnioigcgggdbaaGreatDoor
open Go.RowKit

theorem flat_set1 (x : UInt8) {m : Nat} (hm : m < 64) : ∀ {l : List (List UInt8)}, (∀ s ∈ l, s.length = 64) → ∀ (j : Nat) (s : List UInt8), l[j]? = some s → l.flatten.set (j * 64 + m) x = (l.set j (s.set m x)).flatten
  | [], _, j, s, h => by simp at h
  | t :: l, hl, 0, s, h => by
    simp at h
    subst h
    have := hl t List.mem_cons_self
    rw [List.set_cons_zero, List.flatten_cons, List.flatten_cons, List.set_append_left _ _ (by omega), Nat.zero_mul, Nat.zero_add]
  | t :: l, hl, j + 1, s, h => by
    have ht := hl t List.mem_cons_self
    rw [List.getElem?_cons_succ] at h
    rw [List.set_cons_succ, List.flatten_cons, List.flatten_cons, List.set_append_right _ _ (by omega), ← flat_set1 x hm (fun s hs => hl s (List.mem_cons_of_mem _ hs)) j s h]
    congr 2
    omega
theorem setL_byte (x : UInt8) {m : Nat} (hm : m < 64) {l : List (List UInt8)} (hl : ∀ s ∈ l, s.length = 64) {j : Nat} {s : List UInt8} (hs : l[j]? = some s) :
    setL (bvs l.flatten) (j * 64 + m) [.int .u8 ((x.toNat : Nat) : Int)] = bvs (l.set j (s.set m x)).flatten := by
  rw [← flat_set1 x hm hl j s hs]
  unfold bvs
  rw [List.map_set]
  rfl
section
variable {W : World} {L L' L0 : List Ent} {R : Ending → World → Prop} {g : Nat} {v : Dv} {d : Dd}
set_option maxRecDepth 100000 in
set_option maxHeartbeats 1000000 in
theorem turn_no (N M B : Int) (hn : N < 0 ∨ (d.su.length : Int) ≤ N ∨ M < 0 ∨ 64 ≤ M) (H : Holds W L) (hm : Pull (dkE g v d) L L0) (k : ∀ w', Holds w' (dkE g v d :: L0) → R (.returned (.int .i64 1)) w') :
    Calls Tryz.prog 16 #[.pointer (some ⟨g, 0, none⟩), .int .i64 N, .int .i64 M, .int .u8 B] W R := by
  obtain ⟨ho, H⟩ := dk_open (H.pull hm)
  clear hm
  have HK := Lib.hid k; clear k
  obtain ⟨gs, cs, gn, cn, aw, mw, cw⟩ := v; obtain ⟨su, no, wa, lf, bl⟩ := d; have h0 := ho.n0; have h1 := ho.n1; simp only at h0 h1; have Ho := Lib.hid ho; clear ho; simp only at H
  simp only at hn
  by_cases c1 : N < 0
  · clear hn
    go_enter Tryz.func16, Tryz.ntmps16
    go_wp2_with (first | ((with_reducible apply none_no H); (case hm => (with_reducible repeat first | exact mH)); (case hn => assumption); clear H; (try clear W); intro W H))
    exact HK.out _ (dk_shut _ _ H Ho.out)
  · have d1 : decide (N < 0) = false := by simp; omega
    by_cases c2 : (su.length : Int) ≤ N
    · clear hn
      go_enter Tryz.func16, Tryz.ntmps16
      go_wp2_with (first | ((with_reducible apply wpl_load H); (case hs => exact sc _ rfl); (case hw | hx => rfl); (case hm => (with_reducible repeat first | exact mH)); (case hv => rfl)) | ((with_reducible apply none_no H); (case hm => (with_reducible repeat first | exact mH)); (case hn => assumption); clear H; (try clear W); intro W H))
      exact HK.out _ (dk_shut _ _ H Ho.out)
    · have d2 : decide ((su.length : Int) ≤ N) = false := by simp; omega
      by_cases c3 : M < 0
      · clear hn
        go_enter Tryz.func16, Tryz.ntmps16
        go_wp2_with (first | ((with_reducible apply wpl_load H); (case hs => exact sc _ rfl); (case hw | hx => rfl); (case hm => (with_reducible repeat first | exact mH)); (case hv => rfl)) | ((with_reducible apply none_no H); (case hm => (with_reducible repeat first | exact mH)); (case hn => assumption); clear H; (try clear W); intro W H))
        exact HK.out _ (dk_shut _ _ H Ho.out)
      · have d3 : decide (M < 0) = false := by simp; omega
        have c4 : 64 ≤ M := by omega
        clear hn
        go_enter Tryz.func16, Tryz.ntmps16
        go_wp2_with (first | ((with_reducible apply wpl_load H); (case hs => exact sc _ rfl); (case hw | hx => rfl); (case hm => (with_reducible repeat first | exact mH)); (case hv => rfl)) | ((with_reducible apply none_no H); (case hm => (with_reducible repeat first | exact mH)); (case hn => assumption); clear H; (try clear W); intro W H))
        exact HK.out _ (dk_shut _ _ H Ho.out)
set_option maxRecDepth 100000 in
set_option maxHeartbeats 1000000 in
theorem turn_blown (N M : Nat) (B : Int) (hn : N < d.su.length) (hm64 : M < 64) (hb : d.bl = true) (H : Holds W L) (hm : Pull (dkE g v d) L L0) (k : ∀ w', Holds w' (dkE g v d :: L0) → R (.returned (.int .i64 9)) w') :
    Calls Tryz.prog 16 #[.pointer (some ⟨g, 0, none⟩), .int .i64 N, .int .i64 M, .int .u8 B] W R := by
  obtain ⟨ho, H⟩ := dk_open (H.pull hm)
  clear hm
  have HK := Lib.hid k; clear k
  obtain ⟨gs, cs, gn, cn, aw, mw, cw⟩ := v; obtain ⟨su, no, wa, lf, bl⟩ := d; have h0 := ho.n0; have h1 := ho.n1; simp only at h0 h1; have Ho := Lib.hid ho; clear ho; simp only at H
  simp only at hn hb
  subst hb
  have d1 : decide ((N : Int) < 0) = false := by simp
  have d2 : decide ((su.length : Int) ≤ N) = false := by simp; omega
  have d3 : decide ((M : Int) < 0) = false := by simp
  have d4 : decide ((64 : Int) ≤ M) = false := by simp; omega
  go_enter Tryz.func16, Tryz.ntmps16
  go_wp2_with (first | ((with_reducible apply wpl_load H); (case hs => exact sc _ rfl); (case hw | hx => rfl); (case hm => (with_reducible repeat first | exact mH)); (case hv => rfl)) | ((with_reducible apply none_no H); (case hm => (with_reducible repeat first | exact mH)); (case hn => assumption); clear H; (try clear W); intro W H))
  exact HK.out _ (dk_shut _ _ H Ho.out)
def Dd.turn (d : Dd) (N M : Nat) (y : UInt8) : Dd := Dd.settle ⟨d.su, d.no.set N ((d.no[N]?.getD []).set M (((d.no[N]?.getD [])[M]?.getD 0) ^^^ y)), d.wa, d.lf, d.bl⟩
set_option maxRecDepth 100000 in
set_option maxHeartbeats 2000000 in
theorem turn_yes (N M : Nat) (y : UInt8) (hn : N < d.su.length) (hm64 : M < 64) (hb : d.bl = false) (H : Holds W L) (hm : Pull (dkE g v d) L L0) (k : ∀ v' w', Holds w' (dkE g v' (d.turn N M y) :: L0) → R (.returned (.int .i64 0)) w') :
    Calls Tryz.prog 16 #[.pointer (some ⟨g, 0, none⟩), .int .i64 N, .int .i64 M, .int .u8 ((y.toNat : Nat) : Int)] W R := by
  obtain ⟨ho, H⟩ := dk_open (H.pull hm)
  clear hm
  have HK := Lib.hid k; clear k
  obtain ⟨s, hs⟩ : ∃ s, d.no[N]? = some s := ⟨_, List.getElem?_eq_getElem (show N < d.no.length by rw [ho.nn]; exact hn)⟩
  unfold Dd.turn at HK
  rw [hs] at HK
  simp only [Option.getD_some] at HK
  have hs64 := ho.nl s (List.mem_of_getElem? hs)
  have GS := fun (L : List Ent) (h : ownE 97 64 (.slice (some ⟨v.gn, 0, none⟩) d.su.length v.cn) d.su.length (bvs d.no.flatten) ∈ L) => gives_sec h ho.nl ho.nn hs
  have Hgs := Lib.hid GS
  obtain ⟨gs, cs, gn, cn, aw, mw, cw⟩ := v; obtain ⟨su, no, wa, lf, bl⟩ := d; have h0 := ho.n0; have h1 := ho.n1; simp only at h0 h1; have Ho := Lib.hid ho
  simp only at H hs hs64 Hgs
  simp only at hn hb
  subst hb
  have d1 : decide ((N : Int) < 0) = false := by simp
  have d2 : decide ((su.length : Int) ≤ N) = false := by simp; omega
  have d3 : decide ((M : Int) < 0) = false := by simp
  have d4 : decide ((64 : Int) ≤ M) = false := by simp; omega
  have h3 : (N : Int) < su.length := by omega
  have h4 : (M : Int) < 64 := by omega
  have hkS : N * 64 + M + 1 ≤ (bvs no.flatten).length := by
    rw [flat_len ho.nl, ho.nn]
    simp only; omega
  have HkS := Lib.hid hkS
  have Hs := Lib.hid hs
  have Hs64 := Lib.hid hs64
  clear ho hkS hs hs64 GS
  go_enter Tryz.func16, Tryz.ntmps16
  go_wp2_with (first | ((with_reducible apply wpl_load H); (case hs => exact sc _ rfl); (case hw | hx => rfl); (case hm => (with_reducible repeat first | exact mH)); (case hv => rfl)) | ((with_reducible apply none_no H); (case hm => (with_reducible repeat first | exact mH)); (case hn => assumption); clear H; (try clear W); intro W H))
  ((refine wp_region_J [13] H (by kernel_rfl) ?_); clear H; (try clear W); intro W H; (apply anyJ_takeP 0 (oi := Oper.mk _ _ _ _ _ _) rfl); (case hs | hf => kernel_rfl); (case hr | hF => kernel_rfl); (case hQ => exact fun _ _ _ h => h); (case H => first | exact .inr H ); (case hy => first | (apply yields_pure rfl; intro w; first | (go_simp; with_reducible rfl) )); (try simp only [Act.put, sA, sB, sC]); (apply anyJ_takeP 1 (oi := Oper.mk _ _ _ _ _ _) rfl); (case hs | hf => kernel_rfl); (case hr | hF => kernel_rfl); (case hQ => exact fun _ _ _ h => h); (case H => first | exact .inr H ); (case hy => first | (apply yields_pure rfl; intro w; first | (go_simp; with_reducible rfl) )); (try simp only [Act.put, sA, sB, sC]); (apply anyJ_takeP 2 (oi := Oper.mk _ _ _ _ _ _) rfl); (case hs | hf => kernel_rfl); (case hr | hF => kernel_rfl); (case hQ => exact fun _ _ _ h => h); (case H => first | exact .inr H ); (case hy => first | (apply yields_pure rfl; intro w; first | (go_simp; with_reducible rfl) )); (try simp only [Act.put, sA, sB, sC]); (apply anyJ_takeP 4 (oi := Oper.mk _ _ _ _ _ _) rfl); (case hs | hf => kernel_rfl); (case hr | hF => kernel_rfl); (case hQ => exact fun _ _ _ h => h); (case H => first | exact .inr H ); (case hy => first | (apply yields_pure rfl; intro w; first | (go_simp; with_reducible rfl) )); (try simp only [Act.put, sA, sB, sC]); (apply anyJ_takeP 5 (oi := Oper.mk _ _ _ _ _ _) rfl); (case hs | hf => kernel_rfl); (case hr | hF => kernel_rfl); (case hQ => exact fun _ _ _ h => h); (case H => first | exact .inr H ); (case hy => first | (apply yields_pure rfl; intro w; first | (go_simp; with_reducible rfl) )); (try simp only [Act.put, sA, sB, sC]); (apply anyJ_takeP 9 (oi := Oper.mk _ _ _ _ _ _) rfl); (case hs | hf => kernel_rfl); (case hr | hF => kernel_rfl); (case hQ => exact fun _ _ _ h => h); (case H => first | exact .inr H ); (case hy => first | (apply yields_pure rfl; intro w; first | (go_simp; with_reducible rfl) )); (try simp only [Act.put, sA, sB, sC]); (apply anyJ_take 3 (oi := Oper.mk _ _ _ _ _ _) rfl); (case hs | hf => kernel_rfl); (case hr | hc | hF => kernel_rfl); (case hQ => exact fun _ _ _ h => h); (case H => first | exact H ); (case hy => (first | ((apply yields_load); (case hs => exact sc _ rfl); (case hw | hx => rfl); (case hm => (with_reducible repeat first | exact mH)); (case hv => rfl)) )); (try simp only [Act.put, sA, sB, sC]); (apply anyJ_takeP 6 (oi := Oper.mk _ _ _ _ _ _) rfl); (case hs | hf => kernel_rfl); (case hr | hF => kernel_rfl); (case hQ => exact fun _ _ _ h => h); (case H => first | exact .inr H ); (case hy => first | (apply yields_pure rfl; intro w; first | (go_simp; with_reducible rfl) )); (try simp only [Act.put, sA, sB, sC]); (apply anyJ_takeP 7 (oi := Oper.mk _ _ _ _ _ _) rfl); (case hs | hf => kernel_rfl); (case hr | hF => kernel_rfl); (case hQ => exact fun _ _ _ h => h); (case H => first | exact .inr H ); (case hy => first | (apply yields_pure rfl; intro w; first | (go_simp; with_reducible rfl) )); (try simp only [Act.put, sA, sB, sC]); (apply anyJ_takeP 11 (oi := Oper.mk _ _ _ _ _ _) rfl); (case hs | hf => kernel_rfl); (case hr | hF => kernel_rfl); (case hQ => exact fun _ _ _ h => h); (case H => first | exact .inr H ); (case hy => first | (apply yields_pure rfl; intro w; first | (go_simp; with_reducible rfl) )); (try simp only [Act.put, sA, sB, sC]); (apply anyJ_take 8 (oi := Oper.mk _ _ _ _ _ _) rfl); (case hs | hf => kernel_rfl); (case hr | hc | hF => kernel_rfl); (case hQ => exact fun _ _ _ h => h); (case H => first | exact H ); (case hy => (first | ((apply yields_loadB); (case hs => exact sc _ rfl); (case hw | hx => rfl); (case hm => (apply Hgs.out; (with_reducible repeat first | exact mH | apply mT))); (case hj => assumption)) )); (try simp only [Act.put, sA, sB, sC]); (apply anyJ_takeP 10 (oi := Oper.mk _ _ _ _ _ _) rfl); (case hs | hf => kernel_rfl); (case hr | hF => kernel_rfl); (case hQ => exact fun _ _ _ h => h); (case H => first | exact .inr H ); (case hy => first | (apply yields_pure rfl; intro w; first | (go_simp; with_reducible rfl) )); (try simp only [Act.put, sA, sB, sC]); (apply anyJ_takeP 12 (oi := Oper.mk _ _ _ _ _ _) rfl); (case hs | hf => kernel_rfl); (case hr | hF => kernel_rfl); (case hQ => exact fun _ _ _ h => h); (case H => first | exact .inr H ); (case hy => first | (apply yields_pure rfl; intro w; first | (go_simp; with_reducible rfl) )); (try simp only [Act.put, sA, sB, sC]); (apply anyJ_one 13 (o := Oper.mk _ _ _ _ _ _)); (case hr => kernel_rfl); (case hi | hw => rfl); intro K hK; (first | ((with_reducible apply opw_storeC (v := .int .u8 (((s[M]?.getD 0 ^^^ y).toNat : Nat) : Int)) H); (case hx => rfl); (case hy => first | exact congrArg (Value.int .u8) (xor_byte _ _)); (case h1 => rfl); (case hm => (with_reducible repeat first | exact Upd.here | apply Upd.there)); (case hs => exact sz_sc _ rfl); (case hk => exact HkS.out); clear H; (try clear W); intro W H)); (refine hK.out _ _ ?_ ?_); (· first | exact .inl rfl ); clear hK K; (try simp only [Act.put, sA, sB, sC]); (apply anyJ_done (by kernel_rfl)))
  rw [setL_byte _ hm64 Ho.out.nl Hs.out] at H
  have ho := Ho.out
  have H2 := dk_shut (g := g) ⟨gs, cs, gn, cn, aw, mw, cw⟩ ⟨su, no.set N (s.set M (s[M]?.getD 0 ^^^ y)), wa, lf, false⟩ H ⟨ho.n0, ho.n1, by simpa using ho.nn, ho.sl, (by
    intro t ht
    rcases List.mem_or_eq_of_mem_set ht with h | rfl
    · exact ho.nl t h
    · rw [List.length_set]; exact Hs64.out), ho.wl, ho.m, ho.l1, ho.l2⟩
  clear H ho
  rename Holds _ _ => H
  go_wp2_with (first | ((with_reducible apply settle_k H); (case hm => exact Pull.here); clear H; (try clear W); intro v' W H))
  exact HK.out _ _ H
end
end Go.Proofs.YtdnioigcgggdbaaGreatDoor
