/-
  stores: Add.
-/
import Derived.Test.YtdnioigcgggdbaaGreatDoorSt8
import Derived.Test.YtdnioigcgggdbaaGreatDoorMam
set_option linter.unusedVariables false
set_option linter.unusedSimpArgs false
namespace Go.Proofs.YtdnioigcgggdbaaGreatDoor
open Go.RowKit
/-- the steps of Add, in order: none: Sync; some i: the frame's sector i is laid. -/
def desc1 (i : Nat) : List (Option Nat) := none :: (List.range' 1 (i - 1)).map some
def descr (n : Nat) : List (Option Nat) := desc1 n ++ ((if n ≤ 1 then [] else [none]) ++ [some 0])
theorem desc1_succ {i : Nat} (h : 1 ≤ i) : desc1 (i + 1) = desc1 i ++ [some i] := by
  unfold desc1
  rw [show i + 1 - 1 = (i - 1) + 1 from by omega, List.range'_concat, List.map_append, show 1 + 1 * (i - 1) = i from by omega]
  rfl
theorem desc1_len {i : Nat} (h : 1 ≤ i) : (desc1 i).length = i := by
  unfold desc1
  rw [List.length_cons, List.length_map, List.length_range']
  omega
theorem desc1_lt {i : Nat} : ∀ x, some x ∈ desc1 i → x < i := by
  intro x hx
  unfold desc1 at hx
  rcases List.mem_cons.1 hx with h | h
  · cases h
  · obtain ⟨y, hy, he⟩ := List.mem_map.1 h
    cases he
    obtain ⟨z, hz, rfl⟩ := List.mem_range'.1 hy
    omega
theorem descr_lt {n : Nat} (h : 1 ≤ n) : ∀ x, some x ∈ descr n → x < n := by
  intro x hx
  unfold descr at hx
  rcases List.mem_append.1 hx with h2 | h2
  · exact desc1_lt x h2
  · rcases List.mem_append.1 h2 with h3 | h3
    · split at h3
      · cases h3
      · rcases List.mem_singleton.1 h3 with h4
        cases h4
    · obtain h4 := List.mem_singleton.1 h3
      cases h4
      omega
theorem descr_len {n : Nat} (h : 1 ≤ n) : (descr n).length = if n ≤ 1 then n + 1 else n + 2 := by
  unfold descr
  rw [List.length_append, desc1_len h, List.length_append]
  split <;> rfl
def toS (at_ : Nat) (F : List (List UInt8)) : Option Nat → Option (Nat × List UInt8)
  | none => none
  | some i => some (at_ + i, F[i]?.getD [])
theorem wrs_drop (at_ : Nat) (F : List (List UInt8)) : ∀ (n k : Nat), k + n = F.length → wrs (at_ + k) (F.drop k) = (List.range' k n).map fun i => some (at_ + i, F[i]?.getD [])
  | 0, k, h => by rw [List.drop_of_length_le (by omega)]; rfl
  | n + 1, k, h => by
    have hk : F[k]? = some F[k] := List.getElem?_eq_getElem (by omega)
    rw [drop_cons' hk, wrs, List.range'_succ, List.map_cons, hk, Option.getD_some, Nat.add_assoc, wrs_drop at_ F n (k + 1) (by omega)]
theorem stepsF_descr (at_ : Nat) {F : List (List UInt8)} (h1 : 1 ≤ F.length) : stepsF at_ F = (descr F.length).map (toS at_ F) := by
  unfold stepsF descr desc1
  rw [wrs_drop at_ F (F.length - 1) 1 (by omega), List.cons_append, List.map_cons, List.map_append, List.map_append, List.map_map]
  by_cases h : F.length ≤ 1
  · rw [if_pos h, if_pos h]; rfl
  · rw [if_neg h, if_neg h]; rfl
/-- the function values. -/
def syV (g : Nat) : Value := .func (.func 43) #[.pointer (some ⟨g, 0, none⟩)] #[]
def ptV (p b c en i : Nat) : Value := .agg #[.pointer (some ⟨p, 0, none⟩), .int .i64 ((en : Int) + (i : Int)), .slice (some ⟨b, i * 64, none⟩) 64 (c - i * 64)]
def laV (p b c en i : Nat) : Value := .func (.func 57) #[ptV p b c en i] #[]
def toV (p g b c en : Nat) : Option Nat → Value
  | none => syV g
  | some i => laV p b c en i
theorem yields_sec {J : World → Prop} {ops : Array Oper} {a : Act} {dst : Option Tmp} {x s t : Operand} {ty : TypeId} {pos : String} {after : Array Edge} {gd : Option (Nat × Bool)} (i : Nat) (hw : Region.wanted ⟨dst, .slice 50 x (some s) (some t) none, ty, pos, after, gd⟩ (yielded ops a.tmps) = true) {b n c : Nat} {lo hi : Int}
    (hx : a.eval x = .slice (some ⟨b, 0, none⟩) n c) (hs : a.eval s = .int .i64 lo) (ht : a.eval t = .int .i64 hi) (hl : lo = ((i * 64 : Nat) : Int)) (hh : hi = ((i * 64 + 64 : Nat) : Int)) (h2 : i * 64 + 64 ≤ c) :
    YieldsIf Tryz.prog ops J ⟨dst, .slice 50 x (some s) (some t) none, ty, pos, after, gd⟩ (.slice (some ⟨b, i * 64, none⟩) 64 (c - i * 64)) a := by
  have := yields_slice2 (J := J) (A' := some ⟨b, i * 64, none⟩) hw hx hs ht (by rw [if_neg (by omega), Nat.zero_add]) hl hh (by omega) h2
  rwa [show i * 64 + 64 - i * 64 = 64 from by omega] at this
theorem run_slice64 {w : World} {b o m d : Nat} (hq : 64 ≤ d) :
    (Instr.sliceAt 50 (.slice (some ⟨b, o, none⟩) m d) none (some (.int .i64 64)) none).run Tryz.prog w = .ok (.slice (some ⟨b, o, none⟩) 64 d) w := by
  have hu : Tryz.prog.underlying 50 = some (.slice (Tryz.prog.elem 50)) := by kernel_rfl
  have hs : ∀ w, (sizeOf (Tryz.prog.elem 50)).run Tryz.prog w = .ok 1 w := fun w => by kernel_rfl
  rw [run_sliceAt_slice _ _ _ _ _ _ hu, run_slice_h _ _ _ _ _ hu _ _ (by omega) (by omega), hs]
  simp only [Result.andThen, sliced, Nat.sub_zero, Nat.zero_mul]
  simp [Addr.add]
theorem yields_slice64 {J : World → Prop} {ops : Array Oper} {a : Act} {dst : Option Tmp} {x t : Operand} {ty : TypeId} {pos : String} {after : Array Edge} {gd : Option (Nat × Bool)} (hw : Region.wanted ⟨dst, .slice 50 x none (some t) none, ty, pos, after, gd⟩ (yielded ops a.tmps) = true) {b o m d : Nat}
    (hx : a.eval x = .slice (some ⟨b, o, none⟩) m d) (ht : a.eval t = .int .i64 64) (hq : 64 ≤ d) : YieldsIf Tryz.prog ops J ⟨dst, .slice 50 x none (some t) none, ty, pos, after, gd⟩ (.slice (some ⟨b, o, none⟩) 64 d) a := .inl ⟨hw, fun w _ => by
  unfold execOp
  simp only [hx, ht, Option.map_none, Option.map_some, Sem.run_bind, run_slice64 hq, Result.andThen_ok, Sem.run_pure]⟩
theorem sync_su (d : Dd) (h : d.no.length = d.su.length) : d.sync.1.su.length = d.su.length := by
  unfold Dd.sync
  split
  · rfl
  · exact h
theorem gives_sub {e : Ent} {L : List Ent} {P : World → Prop} (h : Gives [e] P) (hm : e ∈ L) : Gives L P := fun w H => h w ⟨fun x hx => by obtain rfl := List.mem_singleton.1 hx; exact H.all _ hm, List.pairwise_singleton _ _⟩
theorem laV0 (p b c en : Nat) : laV p b c en 0 = .func (.func 57) #[.agg #[.pointer (some ⟨p, 0, none⟩), .int .i64 (en : Int), .slice (some ⟨b, 0, none⟩) 64 c]] #[] := by
  unfold laV ptV
  simp
theorem secA {w : World} {b n c : Nat} {x : List UInt8} (j : Nat) (h : j * 64 + 64 ≤ n) (hr : Rd w 1 (some ⟨b, 0, none⟩) n c (bvs x)) : Rd w 1 (some ⟨b, j * 64, none⟩) 64 (c - j * 64) (bvs ((x.drop (j * 64)).take 64)) := by
  have hle := hr.le
  have := midA (A' := some ⟨b, j * 64, none⟩) (j * 64) (j * 64 + 64) (by rw [if_neg (by omega), Nat.zero_add]) (by omega) h hr
  rw [show j * 64 + 64 - j * 64 = 64 from by omega, List.drop_take, show j * 64 + 64 - j * 64 = 64 from by omega] at this
  exact this
theorem runS_drop {at_ : Nat} {F : List (List UInt8)} {D : List (Option Nat)} {q : Nat} {y : Option Nat} (h : D[q]? = some y) : (D.drop q).map (toS at_ F) = toS at_ F y :: (D.drop (q + 1)).map (toS at_ F) := by
  rw [drop_cons' h, List.map_cons]
section
variable {W : World} {L L' L0 L1 : List Ent} {R : Ending → World → Prop} {p g : Nat} {v : Sv} {s : Sd} {dv : Dv} {d : Dd} {A : Option Addr} {m c : Nat} {b : List UInt8}
set_option maxRecDepth 100000 in
set_option maxHeartbeats 400000 in
theorem sleft_o {en mn : Nat} {f : Value} {r : List Value} (h1 : mn ≤ 1000000) (h2 : en ≤ 1000000) (H : Holds W L) (hm : blk p (.pointer (some ⟨g, 0, none⟩) :: f :: .int .i64 mn :: .int .i64 en :: r) 76 ∈ L) (k : ∀ w', Holds w' L → R (.returned (.int .i64 ((mn : Int) - (en : Int)))) w') :
    Calls Tryz.prog 27 #[.pointer (some ⟨p, 0, none⟩)] W R := by
  have HK := Lib.hid k; clear k
  go_enter Tryz.func27, Tryz.ntmps27
  go_wp2_with (first | ((with_reducible apply snone_k H); (case hm => (with_reducible repeat first | assumption)); clear H; (try clear W); intro W H))
  ((refine wp_region_J [] H (by kernel_rfl) ?_); clear H; (try clear W); intro W H; (apply anyJ_takeP 0 (oi := Oper.mk _ _ _ _ _ _) rfl); (case hs | hf => kernel_rfl); (case hr | hF => kernel_rfl); (case hQ => exact fun _ _ _ h => h); (case H => first | exact .inr H ); (case hy => first | (apply yields_pure rfl; intro w; first | (go_simp; with_reducible rfl) )); (try simp only [Act.put, sA, sB, sC]); (apply anyJ_takeP 1 (oi := Oper.mk _ _ _ _ _ _) rfl); (case hs | hf => kernel_rfl); (case hr | hF => kernel_rfl); (case hQ => exact fun _ _ _ h => h); (case H => first | exact .inr H ); (case hy => first | (apply yields_pure rfl; intro w; first | (go_simp; with_reducible rfl) )); (try simp only [Act.put, sA, sB, sC]); (apply anyJ_takeP 2 (oi := Oper.mk _ _ _ _ _ _) rfl); (case hs | hf => kernel_rfl); (case hr | hF => kernel_rfl); (case hQ => exact fun _ _ _ h => h); (case H => first | exact .inr H ); (case hy => first | (apply yields_pure rfl; intro w; first | (go_simp; with_reducible rfl) )); (try simp only [Act.put, sA, sB, sC]); (apply anyJ_takeP 4 (oi := Oper.mk _ _ _ _ _ _) rfl); (case hs | hf => kernel_rfl); (case hr | hF => kernel_rfl); (case hQ => exact fun _ _ _ h => h); (case H => first | exact .inr H ); (case hy => first | (apply yields_pure rfl; intro w; first | (go_simp; with_reducible rfl) )); (try simp only [Act.put, sA, sB, sC]); (apply anyJ_takeP 5 (oi := Oper.mk _ _ _ _ _ _) rfl); (case hs | hf => kernel_rfl); (case hr | hF => kernel_rfl); (case hQ => exact fun _ _ _ h => h); (case H => first | exact .inr H ); (case hy => first | (apply yields_pure rfl; intro w; first | (go_simp; with_reducible rfl) )); (try simp only [Act.put, sA, sB, sC]); (apply anyJ_takeP 6 (oi := Oper.mk _ _ _ _ _ _) rfl); (case hs | hf => kernel_rfl); (case hr | hF => kernel_rfl); (case hQ => exact fun _ _ _ h => h); (case H => first | exact .inr H ); (case hy => first | (apply yields_pure rfl; intro w; first | (go_simp; with_reducible rfl) )); (try simp only [Act.put, sA, sB, sC]); (apply anyJ_take 3 (oi := Oper.mk _ _ _ _ _ _) rfl); (case hs | hf => kernel_rfl); (case hr | hc | hF => kernel_rfl); (case hQ => exact fun _ _ _ h => h); (case H => first | exact H ); (case hy => (first | ((apply yields_load); (case hs => exact sc _ rfl); (case hw | hx => rfl); (case hm => (with_reducible repeat first | assumption)); (case hv => rfl)) )); (try simp only [Act.put, sA, sB, sC]); (apply anyJ_take 7 (oi := Oper.mk _ _ _ _ _ _) rfl); (case hs | hf => kernel_rfl); (case hr | hc | hF => kernel_rfl); (case hQ => exact fun _ _ _ h => h); (case H => first | exact H ); (case hy => (first | ((apply yields_load); (case hs => exact sc _ rfl); (case hw | hx => rfl); (case hm => (with_reducible repeat first | assumption)); (case hv => rfl)) )); (try simp only [Act.put, sA, sB, sC]); (apply anyJ_takeP 8 (oi := Oper.mk _ _ _ _ _ _) rfl); (case hs | hf => kernel_rfl); (case hr | hF => kernel_rfl); (case hQ => exact fun _ _ _ h => h); (case H => first | exact .inr H ); (case hy => first | (apply yields_pure rfl; intro w; first | (go_simp; with_reducible rfl) )); (try simp only [Act.put, sA, sB, sC]); (apply anyJ_takeP 9 (oi := Oper.mk _ _ _ _ _ _) rfl); (case hs | hf => kernel_rfl); (case hr | hF => kernel_rfl); (case hQ => exact fun _ _ _ h => h); (case H => first | exact .inr H ); (case hy => first | (apply yields_pure rfl; intro w; first | (go_simp; with_reducible rfl) )); (try simp only [Act.put, sA, sB, sC]); (apply anyJ_done (by kernel_rfl)))
  try rw [wrapI (x := (mn : Int) - (en : Int)) (by omega) (by omega)]
  go_wp2_with (first | go_big_skip )
  exact HK.out _ H
set_option maxRecDepth 100000 in
set_option maxHeartbeats 2000000 in
theorem sadd_no (hm6 : 256 < m) (hmc : m ≤ 9223372036854775807) (H : Holds W L) (hm : Pull (stE p g v s) L L0) (k : ∀ w', Holds w' (stE p g v s :: L0) → R (.returned (.int .i64 3)) w') :
    Calls Tryz.prog 20 #[.pointer (some ⟨p, 0, none⟩), .slice A m c] W R := by
  have H2 := st_open (H.pull hm); clear H; obtain ⟨ho, H⟩ := H2
  clear hm
  have HK := Lib.hid k; clear k
  have Ho := Lib.hid ho
  clear ho
  go_enter Tryz.func20, Tryz.ntmps20
  go_wp2_with (first | ((with_reducible apply wpl_load H); (case hs => exact sc _ rfl); (case hw | hx => rfl); (case hm => (with_reducible repeat first | exact mH)); (case hv => rfl)) | ((with_reducible apply snone_k H); (case hm => (with_reducible repeat first | exact mH)); clear H; (try clear W); intro W H) | ((with_reducible apply fput_no hm6 hmc H); clear H; (try clear W); intro W H))
  exact HK.out _ (st_shut _ _ H Ho.out)
set_option maxRecDepth 100000 in
set_option maxHeartbeats 4000000 in
theorem sadd_big (hm6 : m ≤ 256) (hbig : s.mn - s.en < secs m) (G : Gives L0 fun w => Rd w 1 A m c (bvs b)) (H : Holds W L) (hm : Pull (stE p g v s) L L0) (k : ∀ w', Holds w' (stE p g v s :: L0) → R (.returned (.int .i64 11)) w') :
    Calls Tryz.prog 20 #[.pointer (some ⟨p, 0, none⟩), .slice A m c] W R := by
  have hbl := (G W (H.pull hm).tail).blen
  have H2 := st_open (H.pull hm); clear H; obtain ⟨ho, H⟩ := H2
  clear hm
  have HK := Lib.hid k; clear k
  have h1 := ho.m4
  have h2 := ho.em
  have h3 := ho.ll
  have hs5 := secs_5 hm6
  have Ho := Lib.hid ho
  have HG := Lib.hid G
  clear ho G
  go_enter Tryz.func20, Tryz.ntmps20
  go_wp2_with (first | ((with_reducible apply wpl_load H); (case hs => exact sc _ rfl); (case hw | hx => rfl); (case hm => (with_reducible repeat first | exact mH)); (case hv => rfl)) | ((with_reducible apply snone_k H); (case hm => (with_reducible repeat first | exact mH)); clear H; (try clear W); intro W H) | ((with_reducible apply fput_k (x := s.ls.length + 1) (l := b)); (case H => exact H); (case hX => first | rfl ); (case G => (repeat (first | exact HG.out | with_reducible apply Gives.cons))); (case hm => exact hm6); clear H; (try clear W); intro xb xc W H) | ((with_reducible apply sleft_o); (case H => exact H); (case hm => (with_reducible repeat first | exact mH | apply mT)); (case h1 | h2 => omega); clear H; (try clear W); intro W H))
  exact HK.out _ (st_shut _ _ (Reord.use H (by ((repeat (with_reducible apply Reord.cons; (case p => (with_reducible repeat first | exact Pull.here | apply Pull.there)))); repeat (first | with_reducible exact Reord.rest | with_reducible apply Reord.drop)))) Ho.out)
set_option maxRecDepth 100000 in
set_option maxHeartbeats 8000000 in
theorem sadd_yes {d' : Dd} {e : Int} (hm6 : m ≤ 256) (hok : secs m ≤ s.mn - s.en) (hlen : d.wa.length ≤ 500000) (hsu : s.fr + s.mn ≤ d.su.length) (G : Gives L0 fun w => Rd w 1 A m c (bvs b)) (H : Holds W L) (hm : Pull (stE p g v s) L L1) (hm2 : Pull (dkE g dv d) L1 L0)
    (hz : runS (stepsF (s.fr + s.en) (frS (s.ls.length + 1) b)) d = (d', e))
    (kO : e = 0 → ∀ v' dv' w', Holds w' (stE p g v' ⟨s.fr, s.mn, s.en + secs m, s.ls ++ [b]⟩ :: dkE g dv' d' :: L0) → R (.returned (.int .i64 0)) w')
    (kE : e ≠ 0 → ∀ dv' w', Holds w' (stE p g v s :: dkE g dv' d' :: L0) → R (.returned (.int .i64 e)) w') :
    Calls Tryz.prog 20 #[.pointer (some ⟨p, 0, none⟩), .slice A m c] W R := by
  have H1 := (H.pull hm).perm (hm2.perm.cons _)
  have hbl := (G W H1.tail.tail).blen
  have H2 := st_open H1
  clear H H1 hm hm2
  obtain ⟨ho, H⟩ := H2
  have KO := Lib.hid kO
  have KE := Lib.hid kE
  clear kO kE
  have h1 := ho.m4
  have h2 := ho.em
  have h3 := ho.ll
  have hs5 := secs_5 hm6
  have hs1 := secs_1 m
  have hfl : (frS (s.ls.length + 1) b).length = secs m := by rw [frS_len, hbl]
  rw [stepsF_descr _ (by rw [hfl]; exact hs1), hfl] at hz
  have Hz := Lib.hid hz
  have Ho := Lib.hid ho
  have HG := Lib.hid G
  clear ho G hz hfl
  go_enter Tryz.func20, Tryz.ntmps20
  go_wp2_with (first | ((with_reducible apply wpl_load H); (case hs => exact sc _ rfl); (case hw | hx => rfl); (case hm => (with_reducible repeat first | exact mH | apply mT)); (case hv => rfl)) | ((with_reducible apply snone_k H); (case hm => (with_reducible repeat first | exact mH)); clear H; (try clear W); intro W H) | ((with_reducible apply fput_k (x := s.ls.length + 1) (l := b)); (case H => exact H); (case hX => first | rfl ); (case G => (repeat (first | exact HG.out | with_reducible apply Gives.cons))); (case hm => exact hm6); clear H; (try clear W); intro xb xc W H; have hxc := (own_le H.head).1) | ((with_reducible apply sleft_o); (case H => exact H); (case hm => (with_reducible repeat first | exact mH | apply mT)); (case h1 | h2 => omega); clear H; (try clear W); intro W H) | ((with_reducible apply wpl_slice1 (vs := [syV g]) H); (case hw | hx => rfl); (case ht => exact Tryz.underlying105); (case hinfo => exact inf_fn0); (case hzs | hl => rfl); (case h0 => decide); (case h24 => exact Nat.le_of_ble_eq_true rfl); clear H; (try clear W); intro sb W H))
  have hxl : (putF (s.ls.length + 1) b).length = secs m * 64 := by rw [putF_len, hbl]
  have hF : ∀ i, i < secs m → (frS (s.ls.length + 1) b)[i]? = some (((putF (s.ls.length + 1) b).drop (i * 64)).take 64) := fun i hi => chunk_at _ _ i (by rw [hbl]; exact hi)
  generalize putF (s.ls.length + 1) b = x at *
  generalize frS (s.ls.length + 1) b = F at *
  generalize hT : secs m = T at *
  have HT := Lib.hid hT
  have HF := Lib.hid hF
  have Hxl := Lib.hid hxl
  clear hT hF hxl
  replace H := H.blk_own (n := 1) (c := 1) (size := 1) rfl (Nat.le_refl _) (by omega)
  go_loopw [8, 9] (fun sv iv wr => ∃ (i : Nat) (B : Option Addr) (cB : Nat), 1 ≤ i ∧ i ≤ T ∧ iv = .int .i64 i ∧ sv = .slice B i cB ∧ Holds wr (ownE 55 1 (.slice B i cB) i ((desc1 i).map (toV p g xb xc s.en)) :: ownE 5 1 (.slice (some ⟨xb, 0, none⟩) (T * 64) xc) (T * 64) (bvs x) ::
    blk p [.pointer (some ⟨g, 0, none⟩), .int .i64 s.fr, .int .i64 s.mn, .int .i64 s.en, .slice v.A s.ls.length v.c] 76 :: ownE 50 1 (.slice v.A s.ls.length v.c) s.ls.length (List.zipWith rh v.q s.ls) :: srsE v.q s.ls :: dkE g dv d :: L0)) (fun _ iv _ => T - (intOf iv).toNat)
  case atStart => exact ⟨1, some ⟨sb, 0, none⟩, 1, Nat.le_refl _, by omega, rfl, rfl, H⟩
  case round =>
    clear H W
    obtain ⟨i, B, cB, hi1, hiT, rfl, rfl, H⟩ := hrel
    rename World => W
    by_cases hlt : i < T
    · have hii : (i : Int) < T := by omega
      have e1 := Lib.hid (wrapI (x := (s.en : Int) + (i : Int)) (by omega) (by omega))
      have e2 := Lib.hid (wrapI (x := (i : Int) * 64) (by omega) (by omega))
      have e3 := Lib.hid (wrapI (x := (i : Int) + 1) (by omega) (by omega))
      have e4 := Lib.hid (wrapI (x := ((i : Int) + 1) * 64) (by omega) (by omega))
      have hxi : i * 64 + 64 ≤ xc := by omega
      go_wp2_with (first | go_big_skip )
      ((refine wp_region_J [] H (by kernel_rfl) ?_); clear H; (try clear W); intro W H; (apply anyJ_takeP 0 (oi := Oper.mk _ _ _ _ _ _) rfl); (case hs | hf => kernel_rfl); (case hr | hF => kernel_rfl); (case hQ => exact fun _ _ _ h => h); (case H => first | exact .inr H ); (case hy => first | (apply yields_pure rfl; intro w; first | (go_simp; with_reducible rfl) )); (try simp only [Act.put, sA, sB, sC]); (apply anyJ_takeP 1 (oi := Oper.mk _ _ _ _ _ _) rfl); (case hs | hf => kernel_rfl); (case hr | hF => kernel_rfl); (case hQ => exact fun _ _ _ h => h); (case H => first | exact .inr H ); (case hy => first | (apply yields_pure rfl; intro w; first | (go_simp; with_reducible rfl) )); (try simp only [Act.put, sA, sB, sC]); (apply anyJ_takeP 2 (oi := Oper.mk _ _ _ _ _ _) rfl); (case hs | hf => kernel_rfl); (case hr | hF => kernel_rfl); (case hQ => exact fun _ _ _ h => h); (case H => first | exact .inr H ); (case hy => first | (apply yields_pure rfl; intro w; first | (go_simp; with_reducible rfl) )); (try simp only [Act.put, sA, sB, sC]); (apply anyJ_takeP 3 (oi := Oper.mk _ _ _ _ _ _) rfl); (case hs | hf => kernel_rfl); (case hr | hF => kernel_rfl); (case hQ => exact fun _ _ _ h => h); (case H => first | exact .inr H ); (case hy => first | (apply yields_pure rfl; intro w; first | (go_simp; with_reducible rfl) )); (try simp only [Act.put, sA, sB, sC]); (apply anyJ_takeP 5 (oi := Oper.mk _ _ _ _ _ _) rfl); (case hs | hf => kernel_rfl); (case hr | hF => kernel_rfl); (case hQ => exact fun _ _ _ h => h); (case H => first | exact .inr H ); (case hy => first | (apply yields_pure rfl; intro w; first | (go_simp; with_reducible rfl) )); (try simp only [Act.put, sA, sB, sC]); (apply anyJ_takeP 7 (oi := Oper.mk _ _ _ _ _ _) rfl); (case hs | hf => kernel_rfl); (case hr | hF => kernel_rfl); (case hQ => exact fun _ _ _ h => h); (case H => first | exact .inr H ); (case hy => first | (apply yields_pure rfl; intro w; first | (go_simp; with_reducible rfl) )); (try simp only [Act.put, sA, sB, sC]); (apply anyJ_takeP 8 (oi := Oper.mk _ _ _ _ _ _) rfl); (case hs | hf => kernel_rfl); (case hr | hF => kernel_rfl); (case hQ => exact fun _ _ _ h => h); (case H => first | exact .inr H ); (case hy => first | (apply yields_pure rfl; intro w; first | (go_simp; with_reducible rfl) )); (try simp only [Act.put, sA, sB, sC]); (apply anyJ_takeP 9 (oi := Oper.mk _ _ _ _ _ _) rfl); (case hs | hf => kernel_rfl); (case hr | hF => kernel_rfl); (case hQ => exact fun _ _ _ h => h); (case H => first | exact .inr H ); (case hy => first | (apply yields_pure rfl; intro w; first | (go_simp; with_reducible rfl) )); (try simp only [Act.put, sA, sB, sC]); (apply anyJ_takeP 10 (oi := Oper.mk _ _ _ _ _ _) rfl); (case hs | hf => kernel_rfl); (case hr | hF => kernel_rfl); (case hQ => exact fun _ _ _ h => h); (case H => first | exact .inr H ); (case hy => first | (apply yields_pure rfl; intro w; first | (go_simp; with_reducible rfl) )); (try simp only [Act.put, sA, sB, sC]); (apply anyJ_takeP 11 (oi := Oper.mk _ _ _ _ _ _) rfl); (case hs | hf => kernel_rfl); (case hr | hF => kernel_rfl); (case hQ => exact fun _ _ _ h => h); (case H => first | exact .inr H ); (case hy => first | (apply yields_pure rfl; intro w; first | (go_simp; with_reducible rfl) )); (try simp only [Act.put, sA, sB, sC]); (apply anyJ_takeP 12 (oi := Oper.mk _ _ _ _ _ _) rfl); (case hs | hf => kernel_rfl); (case hr | hF => kernel_rfl); (case hQ => exact fun _ _ _ h => h); (case H => first | exact .inr H ); (case hy => first | (apply yields_pure rfl; intro w; first | (go_simp; with_reducible rfl) )); (try simp only [Act.put, sA, sB, sC]); (apply anyJ_takeP 13 (oi := Oper.mk _ _ _ _ _ _) rfl); (case hs | hf => kernel_rfl); (case hr | hF => kernel_rfl); (case hQ => exact fun _ _ _ h => h); (case H => first | exact .inr H ); (case hy => first | ((apply yields_sec i); (case hw | hx => rfl); (case hs | ht => rfl); (case hl => first | (rw [e2.out]; omega) ); (case hh => first | (rw [e3.out, e4.out]; omega) ); (case h2 => exact hxi)) ); (try simp only [Act.put, sA, sB, sC]); (apply anyJ_take 4 (oi := Oper.mk _ _ _ _ _ _) rfl); (case hs | hf => kernel_rfl); (case hr | hc | hF => kernel_rfl); (case hQ => exact fun _ _ _ h => h); (case H => first | exact H ); (case hy => (first | ((apply yields_load); (case hs => exact sc _ rfl); (case hw | hx => rfl); (case hm => (with_reducible repeat first | exact mH | apply mT)); (case hv => rfl)) )); (try simp only [Act.put, sA, sB, sC]); (apply anyJ_takeP 6 (oi := Oper.mk _ _ _ _ _ _) rfl); (case hs | hf => kernel_rfl); (case hr | hF => kernel_rfl); (case hQ => exact fun _ _ _ h => h); (case H => first | exact .inr H ); (case hy => first | (apply yields_pure rfl; intro w; first | (go_simp; with_reducible rfl) )); (try simp only [Act.put, sA, sB, sC]); (apply anyJ_takeP 14 (oi := Oper.mk _ _ _ _ _ _) rfl); (case hs | hf => kernel_rfl); (case hr | hF => kernel_rfl); (case hQ => exact fun _ _ _ h => h); (case H => first | exact .inr H ); (case hy => first | (apply yields_pure rfl; intro w; first | (go_simp; with_reducible rfl) )); (try simp only [Act.put, sA, sB, sC]); (apply anyJ_one 15 (o := Oper.mk _ _ _ _ _ _)); (case hr => kernel_rfl); (case hi | hw => rfl); intro K hK; (first | (first | ((with_reducible apply opw_alloc (zs := [.pointer none, .int .i64 0, .slice none 0 0]) (T' := 107) H); (case hr => exact fun w => by kernel_rfl); clear H; (try clear W); intro pb W H) ) ); (refine hK.out _ _ ?_ ?_); (· first | exact .inr (Reord.use H (by ((repeat (with_reducible apply Reord.cons; (case p => (with_reducible repeat first | exact Pull.here | apply Pull.there)))); repeat (first | with_reducible exact Reord.rest | with_reducible apply Reord.drop))))); clear hK K; (try simp only [Act.put, sA, sB, sC]); (apply anyJ_one 16 (o := Oper.mk _ _ _ _ _ _)); (case hr => kernel_rfl); (case hi | hw => rfl); intro K hK; (first | (first | ((with_reducible apply opw_store (vs := [.pointer (some ⟨p, 0, none⟩), .int .i64 ((s.en : Int) + (i : Int)), .slice (some ⟨xb, i * 64, none⟩) 64 (xc - i * 64)]) H); (case hx => rfl); (case hy => first | exact Eq.trans (b := (Value.agg #[.pointer (some ⟨p, 0, none⟩), .int .i64 (IntKind.i64.wrap ((s.en : Int) + (i : Int))), .slice (some ⟨xb, i * 64, none⟩) 64 (xc - i * 64)]).cells) rfl (by rw [e1.out]; rfl)); (case hm => (with_reducible repeat first | exact Upd.here)); (case hs => exact sz_ag _ _ rfl); (case h1 => rfl); (case hk => exact Nat.le_of_ble_eq_true rfl); clear H; (try clear W); intro W H; simp only [setL, List.set_cons_zero, List.set_cons_succ] at H)) ); (refine hK.out _ _ ?_ ?_); (· first | exact .inr (Reord.use H (by ((repeat (with_reducible apply Reord.cons; (case p => (with_reducible repeat first | exact Pull.here | apply Pull.there)))); repeat (first | with_reducible exact Reord.rest | with_reducible apply Reord.drop))))); clear hK K; (try simp only [Act.put, sA, sB, sC]); (apply anyJ_done (by kernel_rfl)))
      go_wp2_with (first | ((with_reducible apply wpl_loadA H); (case hs => exact ag _ _ rfl); (case hw | hx => rfl); (case hm => (with_reducible repeat first | exact mH)); (case hv | hl => rfl)) | ((with_reducible apply wpl_slice1 (vs := [laV p xb xc s.en i]) H); (case hw | hx => rfl); (case ht => exact Tryz.underlying105); (case hinfo => exact inf_fn0); (case hzs | hl => rfl); (case h0 => decide); (case h24 => exact Nat.le_of_ble_eq_true rfl); clear H; (try clear W); intro sb2 W H) | ((with_reducible apply wpl_app H); (case hw => rfl); (case ht => exact Tryz.underlying105); (case hinfo => exact inf_fn0); (case hs | hx => rfl); (case hm => (with_reducible repeat first | exact Pull.here | apply Pull.there)); (case hzs => rfl); (case hsz => decide); (case hr => exact gives_blk (by (with_reducible repeat first | exact mH)) rfl (by omega)); (case h1 => (intro u hu; obtain rfl := List.mem_singleton.1 hu; rfl)); (case h63 => (simp only [maxLen]; omega)); (case hbytes => omega); clear H; (try clear W); intro A1 n1 c1 W hn1 H hle1 htop1; obtain rfl := hn1.out; clear hn1))
      refine ⟨⟨i + 1, A1, c1, by omega, by omega, congrArg (Value.int .i64) (by omega), rfl, ?_⟩, by simp only [intOf]; omega⟩
      rw [desc1_succ hi1, List.map_append, show [some i].map (toV p g xb xc s.en) = [laV p xb xc s.en i] from rfl]
      exact Reord.use H (by ((repeat (with_reducible apply Reord.cons; (case p => (with_reducible repeat first | exact Pull.here | apply Pull.there)))); repeat (first | with_reducible exact Reord.rest | with_reducible apply Reord.drop)))
    · obtain rfl : i = T := by omega
      clear hlt
      have h64c : 64 ≤ xc := by omega
      have hwn2 : d.wa.length + (i + 2) ≤ 1000000 := by omega
      by_cases hT1 : i ≤ 1
      · have hde : (descr i).map (toV p g xb xc s.en) = (desc1 i).map (toV p g xb xc s.en) ++ [laV p xb xc s.en 0] := by
          unfold descr; rw [if_pos hT1, List.nil_append, List.map_append]; rfl
        have hdl : (descr i).length = i + 1 := by rw [descr_len hi1, if_pos hT1]
        have Hde := Lib.hid hde
        have Hdl := Lib.hid hdl
        clear hde hdl
        have hT1i : ¬ (1 : Int) < i := by omega
        go_wp2_with (first | go_big_skip )
        ((refine wp_region_J [11] H (by kernel_rfl) ?_); clear H; (try clear W); intro W H; (apply anyJ_takeP 0 (oi := Oper.mk _ _ _ _ _ _) rfl); (case hs | hf => kernel_rfl); (case hr | hF => kernel_rfl); (case hQ => exact fun _ _ _ h => h); (case H => first | exact .inr H ); (case hy => first | (apply yields_pure rfl; intro w; first | (go_simp; with_reducible rfl) )); (try simp only [Act.put, sA, sB, sC]); (apply anyJ_takeP 1 (oi := Oper.mk _ _ _ _ _ _) rfl); (case hs | hf => kernel_rfl); (case hr | hF => kernel_rfl); (case hQ => exact fun _ _ _ h => h); (case H => first | exact .inr H ); (case hy => first | (apply yields_pure rfl; intro w; first | (go_simp; with_reducible rfl) )); (try simp only [Act.put, sA, sB, sC]); (apply anyJ_takeP 2 (oi := Oper.mk _ _ _ _ _ _) rfl); (case hs | hf => kernel_rfl); (case hr | hF => kernel_rfl); (case hQ => exact fun _ _ _ h => h); (case H => first | exact .inr H ); (case hy => first | (apply yields_pure rfl; intro w; first | (go_simp; with_reducible rfl) )); (try simp only [Act.put, sA, sB, sC]); (apply anyJ_takeP 3 (oi := Oper.mk _ _ _ _ _ _) rfl); (case hs | hf => kernel_rfl); (case hr | hF => kernel_rfl); (case hQ => exact fun _ _ _ h => h); (case H => first | exact .inr H ); (case hy => first | (apply yields_pure rfl; intro w; first | (go_simp; with_reducible rfl) )); (try simp only [Act.put, sA, sB, sC]); (apply anyJ_takeP 4 (oi := Oper.mk _ _ _ _ _ _) rfl); (case hs | hf => kernel_rfl); (case hr | hF => kernel_rfl); (case hQ => exact fun _ _ _ h => h); (case H => first | exact .inr H ); (case hy => first | (apply yields_pure rfl; intro w; first | (go_simp; with_reducible rfl) )); (try simp only [Act.put, sA, sB, sC]); (apply anyJ_takeP 6 (oi := Oper.mk _ _ _ _ _ _) rfl); (case hs | hf => kernel_rfl); (case hr | hF => kernel_rfl); (case hQ => exact fun _ _ _ h => h); (case H => first | exact .inr H ); (case hy => first | (apply yields_pure rfl; intro w; first | (go_simp; with_reducible rfl) )); (try simp only [Act.put, sA, sB, sC]); (apply anyJ_takeP 7 (oi := Oper.mk _ _ _ _ _ _) rfl); (case hs | hf => kernel_rfl); (case hr | hF => kernel_rfl); (case hQ => exact fun _ _ _ h => h); (case H => first | exact .inr H ); (case hy => first | ((apply yields_slice64); (case hw | hx | ht => rfl); (case hq => exact h64c)) ); (try simp only [Act.put, sA, sB, sC]); (apply anyJ_takeP 13 (oi := Oper.mk _ _ _ _ _ _) rfl); (case hs | hf => kernel_rfl); (case hr | hF => kernel_rfl); (case hQ => exact fun _ _ _ h => h); (case H => first | exact .inr H ); (case hy => first | (apply yields_pure rfl; intro w; first | (go_simp; with_reducible rfl) )); (try simp only [Act.put, sA, sB, sC]); (apply anyJ_take 5 (oi := Oper.mk _ _ _ _ _ _) rfl); (case hs | hf => kernel_rfl); (case hr | hc | hF => kernel_rfl); (case hQ => exact fun _ _ _ h => h); (case H => first | exact H ); (case hy => (first | ((apply yields_load); (case hs => exact sc _ rfl); (case hw | hx => rfl); (case hm => (with_reducible repeat first | exact mH | apply mT)); (case hv => rfl)) )); (try simp only [Act.put, sA, sB, sC]); (apply anyJ_takeP 8 (oi := Oper.mk _ _ _ _ _ _) rfl); (case hs | hf => kernel_rfl); (case hr | hF => kernel_rfl); (case hQ => exact fun _ _ _ h => h); (case H => first | exact .inr H ); (case hy => first | (apply yields_pure rfl; intro w; first | (go_simp; with_reducible rfl) )); (try simp only [Act.put, sA, sB, sC]); (apply anyJ_takeP 9 (oi := Oper.mk _ _ _ _ _ _) rfl); (case hs | hf => kernel_rfl); (case hr | hF => kernel_rfl); (case hQ => exact fun _ _ _ h => h); (case H => first | exact .inr H ); (case hy => first | (apply yields_pure rfl; intro w; first | (go_simp; with_reducible rfl) )); (try simp only [Act.put, sA, sB, sC]); (apply anyJ_one 10 (o := Oper.mk _ _ _ _ _ _)); (case hr => kernel_rfl); (case hi | hw => rfl); intro K hK; (first | (first | ((with_reducible apply opw_slice1 (vs := [.func (.func 57) #[.agg #[.pointer (some ⟨p, 0, none⟩), .int .i64 s.en, .slice (some ⟨xb, 0, none⟩) 64 xc]] #[]]) H); (case hx => rfl); (case ht => exact Tryz.underlying105); (case hinfo => exact inf_fn0); (case hzs | hl => rfl); (case h0 => decide); (case h24 => exact Nat.le_of_ble_eq_true rfl); clear H; (try clear W); intro sb3 W H) ) ); (refine hK.out _ _ ?_ ?_); (· first | exact .inr (Reord.use H (by ((repeat (with_reducible apply Reord.cons; (case p => (with_reducible repeat first | exact Pull.here | apply Pull.there)))); repeat (first | with_reducible exact Reord.rest | with_reducible apply Reord.drop))))); clear hK K; (try simp only [Act.put, sA, sB, sC]); (apply anyJ_one 11 (o := Oper.mk _ _ _ _ _ _)); (case hr => kernel_rfl); (case hi | hw => rfl); intro K hK; (first | (first | ((with_reducible apply opw_app H); (case ht => exact Tryz.underlying105); (case hinfo => exact inf_fn0); (case hs | hx => rfl); (case hm => (with_reducible repeat first | exact Pull.here | apply Pull.there)); (case hzs => rfl); (case hsz => decide); (case hr => exact gives_blk (by (with_reducible repeat first | exact mH)) rfl (by omega)); (case h1 => (intro u hu; obtain rfl := List.mem_singleton.1 hu; rfl)); (case h63 => (simp only [maxLen]; omega)); (case hbytes => omega); clear H; (try clear W); intro A2 n2 c2 W hn2 H hle2 htop2; obtain rfl := hn2.out; clear hn2)) ); (refine hK.out _ _ ?_ ?_); (· first | exact .inl rfl ); clear hK K; (try simp only [Act.put, sA, sB, sC]); (apply anyJ_takeP 12 (oi := Oper.mk _ _ _ _ _ _) rfl); (case hs | hf => kernel_rfl); (case hr | hF => kernel_rfl); (case hQ => exact fun _ _ _ h => h); (case H => first | exact .inl rfl ); (case hy => first | (apply yields_pure rfl; intro w; first | (go_simp; with_reducible rfl) )); (try simp only [Act.put, sA, sB, sC]); (apply anyJ_done (by kernel_rfl)))
        rw [← laV0, ← Hde.out, ← Hdl.out] at H
        rw [← Hdl.out]
        obtain ⟨n, hn⟩ : ∃ n, (descr i).length = n := ⟨_, rfl⟩
        have Hn := Lib.hid hn
        have hn2 : n ≤ i + 2 := by have := Hdl.out; omega
        have hn3 := hn.symm.trans Hdl.out
        have hn4 := Nat.le_of_eq hn3
        have hn5 := Nat.le_of_eq hn3.symm
        clear hn3
        rw [hn] at H ⊢
        clear hn
        go_wp2_with (first | go_big_skip )
        go_loopw [94] (fun iv wr => ∃ (q : Nat) (dv' : Dv) (dq : Dd), q ≤ n ∧ iv = .int .i64 q ∧ runS ((descr i).map (toS (s.fr + s.en) F)) d = runS (((descr i).drop q).map (toS (s.fr + s.en) F)) dq ∧ dq.su.length = d.su.length ∧ dq.wa.length ≤ d.wa.length + q ∧ Holds wr (ownE 55 1 (.slice A2 n c2) n ((descr i).map (toV p g xb xc s.en)) :: ownE 5 1 (.slice (some ⟨xb, 0, none⟩) (i * 64) xc) (i * 64) (bvs x) :: blk p [.pointer (some ⟨g, 0, none⟩), .int .i64 s.fr, .int .i64 s.mn, .int .i64 s.en, .slice v.A s.ls.length v.c] 76 :: ownE 50 1 (.slice v.A s.ls.length v.c) s.ls.length (List.zipWith rh v.q s.ls) :: srsE v.q s.ls :: dkE g dv' dq :: L0)) (fun iv _ => n - (intOf iv).toNat)
        case atStart => exact ⟨0, dv, d, by omega, rfl, rfl, rfl, by omega, Reord.use H (by ((repeat (with_reducible apply Reord.cons; (case p => (with_reducible repeat first | exact Pull.here | apply Pull.there)))); repeat (first | with_reducible exact Reord.rest | with_reducible apply Reord.drop)))⟩
        case round =>
          clear H W
          obtain ⟨q, dv', dq, hq, rfl, hw, hsuq, hwa, H⟩ := hrel
          rename World => W
          have Hw := Lib.hid hw
          have Hsuq := Lib.hid hsuq
          clear hw hsuq
          by_cases hqn : q < n
          · have hqi : (q : Int) < n := by omega
            obtain ⟨y, hy⟩ : ∃ y, (descr i)[q]? = some y := ⟨_, List.getElem?_eq_getElem (by rw [Hn.out]; exact hqn)⟩
            have hv : ((descr i).map (toV p g xb xc s.en))[q]? = some (toV p g xb xc s.en y) := by rw [List.getElem?_map, hy]; rfl
            have hru := Hw.out
            rw [runS_drop hy] at hru
            obtain ⟨ab, rfl⟩ := own_some H.head (by omega)
            have Hv := Lib.hid hv
            have hwl' : Hid (dq.wa.length ≤ 1000000) := Lib.hid (by omega)
            have hoq := dk_ok' (H.all (dkE g dv' dq) (by (with_reducible repeat first | exact mH | assumption | apply mT)))
            cases y with
            | none =>
              obtain ⟨d2, e2, hz2⟩ : ∃ d2 e2, dq.sync = (d2, e2) := ⟨_, _, rfl⟩
              rw [show toS (s.fr + s.en) F none = none from rfl, runS, hz2] at hru
              simp only at hru
              have hsu2 : d2.su.length = d.su.length := by have := sync_su dq hoq.nn; rw [hz2] at this; exact this.trans Hsuq.out
              have hwa2 : d2.wa.length ≤ d.wa.length + (q + 1) := by have := sync_wa dq; rw [hz2] at this; simp only at this; omega
              have Hz2 := Lib.hid hz2
              have Hru := Lib.hid hru
              clear hru hz2 hy hv hoq
              by_cases he2 : e2 = 0
              · subst he2
                go_wp2_with (first | ((with_reducible apply wpl_loadVs0 (j := q) (v := .func (.func 43) #[.pointer (some ⟨g, 0, none⟩)] #[]) H); (case hs => exact sc_fn0); (case hw | hx => rfl); (case hm => exact gives_own (by (with_reducible repeat first | exact mH)) rfl); (case hj => omega); (case hv => exact Hv.out)) | ((with_reducible apply dsync_c); (case hz => exact Hz2.out); (case H => exact H); (case hm => (with_reducible repeat first | exact Pull.here | apply Pull.there)); clear H; (try clear W); intro dv2 W H))
                exact ⟨⟨q + 1, dv2, d2, by omega, congrArg (Value.int .i64) (by omega), Hru.out.trans (if_pos trivial), hsu2, hwa2, Reord.use H (by ((repeat (with_reducible apply Reord.cons; (case p => (with_reducible repeat first | exact Pull.here | apply Pull.there)))); repeat (with_reducible exact Reord.rest)))⟩, by simp only [intOf]; omega⟩
              · have heb : (e2 == 0) = false := by rw [beq_eq_false_iff_ne]; exact he2
                have hfin := Hz.out.symm.trans (Hru.out.trans (if_neg he2))
                obtain ⟨hd2, he3⟩ := Prod.mk.inj hfin
                subst hd2 he3
                clear hfin
                go_wp2_with (first | ((with_reducible apply wpl_loadVs0 (j := q) (v := .func (.func 43) #[.pointer (some ⟨g, 0, none⟩)] #[]) H); (case hs => exact sc_fn0); (case hw | hx => rfl); (case hm => exact gives_own (by (with_reducible repeat first | exact mH)) rfl); (case hj => omega); (case hv => exact Hv.out)) | ((with_reducible apply dsync_c); (case hz => exact Hz2.out); (case H => exact H); (case hm => (with_reducible repeat first | exact Pull.here | apply Pull.there)); clear H; (try clear W); intro dv2 W H))
                exact KE.out he2 dv2 _ (Reord.use (st_shut (p := p) (g := g) v s (Reord.use H (by ((repeat (with_reducible apply Reord.cons; (case p => (with_reducible repeat first | exact Pull.here | apply Pull.there)))); repeat (with_reducible exact Reord.rest)))) Ho.out) (by ((repeat (with_reducible apply Reord.cons; (case p => (with_reducible repeat first | exact Pull.here)))); repeat (first | with_reducible exact Reord.rest | with_reducible apply Reord.drop))))
            | some j =>
              have hjT := descr_lt hi1 j (List.mem_of_getElem? hy)
              have hsec := HF.out j hjT
              obtain ⟨sec, hse⟩ : ∃ sec, (x.drop (j * 64)).take 64 = sec := ⟨_, rfl⟩
              rw [hse] at hsec
              have hGx : Gives [ownE 5 1 (.slice (some ⟨xb, 0, none⟩) (i * 64) xc) (i * 64) (bvs x)] fun w => Rd w 1 (some ⟨xb, j * 64, none⟩) 64 (xc - j * 64) (bvs sec) := (gives_own (List.mem_singleton.2 rfl) rfl).imp fun w h => by rw [← hse]; exact secA j (by omega) h
              obtain ⟨d2, e2, hz2⟩ : ∃ d2 e2, dq.write ((s.fr + (s.en + j) : Nat) : Int) sec = (d2, e2) := ⟨_, _, rfl⟩
              rw [show toS (s.fr + s.en) F (some j) = some (s.fr + (s.en + j), sec) from by show some (s.fr + s.en + j, F[j]?.getD []) = _; rw [hsec, Option.getD_some, Nat.add_assoc], runS, hz2] at hru
              simp only at hru
              have hsu2 : d2.su.length = d.su.length := by have := write_su dq ((s.fr + (s.en + j) : Nat) : Int) sec; rw [hz2] at this; rw [this]; exact Hsuq.out
              have hwa2 : d2.wa.length ≤ d.wa.length + (q + 1) := by have := write_wa dq ((s.fr + (s.en + j) : Nat) : Int) sec; rw [hz2] at this; simp only at this; omega
              have Hz2 := Lib.hid hz2
              have Hru := Lib.hid hru
              have HGx := Lib.hid hGx
              clear hru hz2 hy hv hoq hsec hse hGx
              by_cases he2 : e2 = 0
              · subst he2
                go_wp2_with (first | ((with_reducible apply wpl_loadVs0 (j := q) (v := .func (.func 57) #[.agg #[.pointer (some ⟨p, 0, none⟩), .int .i64 ((s.en : Int) + (j : Int)), .slice (some ⟨xb, j * 64, none⟩) 64 (xc - j * 64)]] #[]) H); (case hs => exact sc_fn0); (case hw | hx => rfl); (case hm => exact gives_own (by (with_reducible repeat first | exact mH)) rfl); (case hj => omega); (case hv => exact Hv.out)) | ((with_reducible apply lay_at (s.en + j) sec); (case H => exact H); (case hm => (with_reducible repeat first | exact Pull.here | apply Pull.there)); (case hp => (with_reducible repeat first | exact mH | apply mT)); (case hN => omega); (case hz => exact Hz2.out); (case hfa => omega); (case hlen => exact hwl'.out); (case hr => exact gives_sub HGx.out (by (with_reducible repeat first | exact mH | apply mT))); clear H; (try clear W); intro dv2 W H))
                exact ⟨⟨q + 1, dv2, d2, by omega, congrArg (Value.int .i64) (by omega), Hru.out.trans (if_pos trivial), hsu2, hwa2, Reord.use H (by ((repeat (with_reducible apply Reord.cons; (case p => (with_reducible repeat first | exact Pull.here | apply Pull.there)))); repeat (with_reducible exact Reord.rest)))⟩, by simp only [intOf]; omega⟩
              · have heb : (e2 == 0) = false := by rw [beq_eq_false_iff_ne]; exact he2
                have hfin := Hz.out.symm.trans (Hru.out.trans (if_neg he2))
                obtain ⟨hd2, he3⟩ := Prod.mk.inj hfin
                subst hd2 he3
                clear hfin
                go_wp2_with (first | ((with_reducible apply wpl_loadVs0 (j := q) (v := .func (.func 57) #[.agg #[.pointer (some ⟨p, 0, none⟩), .int .i64 ((s.en : Int) + (j : Int)), .slice (some ⟨xb, j * 64, none⟩) 64 (xc - j * 64)]] #[]) H); (case hs => exact sc_fn0); (case hw | hx => rfl); (case hm => exact gives_own (by (with_reducible repeat first | exact mH)) rfl); (case hj => omega); (case hv => exact Hv.out)) | ((with_reducible apply lay_at (s.en + j) sec); (case H => exact H); (case hm => (with_reducible repeat first | exact Pull.here | apply Pull.there)); (case hp => (with_reducible repeat first | exact mH | apply mT)); (case hN => omega); (case hz => exact Hz2.out); (case hfa => omega); (case hlen => exact hwl'.out); (case hr => exact gives_sub HGx.out (by (with_reducible repeat first | exact mH | apply mT))); clear H; (try clear W); intro dv2 W H))
                exact KE.out he2 dv2 _ (Reord.use (st_shut (p := p) (g := g) v s (Reord.use H (by ((repeat (with_reducible apply Reord.cons; (case p => (with_reducible repeat first | exact Pull.here | apply Pull.there)))); repeat (with_reducible exact Reord.rest)))) Ho.out) (by ((repeat (with_reducible apply Reord.cons; (case p => (with_reducible repeat first | exact Pull.here)))); repeat (first | with_reducible exact Reord.rest | with_reducible apply Reord.drop))))
          · obtain rfl : q = n := by omega
            have hfin : (d', e) = (dq, 0) := Hz.out.symm.trans (Hw.out.trans (by rw [List.drop_of_length_le (Nat.le_of_eq Hn.out)]; rfl))
            obtain ⟨hd2, he3⟩ := Prod.mk.inj hfin
            subst hd2 he3
            clear hfin
            have hmm : m ≤ 1000000 := by omega
            go_wp2_with (first | go_big_skip )
            ((refine wp_region_J [8, 11] H (by kernel_rfl) ?_); clear H; (try clear W); intro W H; (apply anyJ_takeP 0 (oi := Oper.mk _ _ _ _ _ _) rfl); (case hs | hf => kernel_rfl); (case hr | hF => kernel_rfl); (case hQ => exact fun _ _ _ h => h); (case H => first | exact .inr H ); (case hy => first | (apply yields_pure rfl; intro w; first | (go_simp; with_reducible rfl) )); (try simp only [Act.put, sA, sB, sC]); (apply anyJ_takeP 1 (oi := Oper.mk _ _ _ _ _ _) rfl); (case hs | hf => kernel_rfl); (case hr | hF => kernel_rfl); (case hQ => exact fun _ _ _ h => h); (case H => first | exact .inr H ); (case hy => first | (apply yields_pure rfl; intro w; first | (go_simp; with_reducible rfl) )); (try simp only [Act.put, sA, sB, sC]); (apply anyJ_takeP 2 (oi := Oper.mk _ _ _ _ _ _) rfl); (case hs | hf => kernel_rfl); (case hr | hF => kernel_rfl); (case hQ => exact fun _ _ _ h => h); (case H => first | exact .inr H ); (case hy => first | (apply yields_pure rfl; intro w; first | (go_simp; with_reducible rfl) )); (try simp only [Act.put, sA, sB, sC]); (apply anyJ_takeP 3 (oi := Oper.mk _ _ _ _ _ _) rfl); (case hs | hf => kernel_rfl); (case hr | hF => kernel_rfl); (case hQ => exact fun _ _ _ h => h); (case H => first | exact .inr H ); (case hy => first | (apply yields_pure rfl; intro w; first | (go_simp; with_reducible rfl) )); (try simp only [Act.put, sA, sB, sC]); (apply anyJ_takeP 5 (oi := Oper.mk _ _ _ _ _ _) rfl); (case hs | hf => kernel_rfl); (case hr | hF => kernel_rfl); (case hQ => exact fun _ _ _ h => h); (case H => first | exact .inr H ); (case hy => first | (apply yields_pure rfl; intro w; first | (go_simp; with_reducible rfl) )); (try simp only [Act.put, sA, sB, sC]); (apply anyJ_take 4 (oi := Oper.mk _ _ _ _ _ _) rfl); (case hs | hf => kernel_rfl); (case hr | hc | hF => kernel_rfl); (case hQ => exact fun _ _ _ h => h); (case H => first | exact H ); (case hy => (first | ((apply yields_load); (case hs => exact sc _ rfl); (case hw | hx => rfl); (case hm => (with_reducible repeat first | exact mH | apply mT)); (case hv => rfl)) )); (try simp only [Act.put, sA, sB, sC]); (apply anyJ_one 6 (o := Oper.mk _ _ _ _ _ _)); (case hr => kernel_rfl); (case hi | hw => rfl); intro K hK; (first | (first | (go_simp; (with_reducible apply bclone_k (l := b)); (case H => exact H); (case G => (repeat (first | exact HG.out | with_reducible apply Gives.cons))); (case hm => exact hmm); clear H; (try clear W); intro ra rn rc W hrn H; obtain rfl := hrn.symm; clear hrn) ) ); (refine hK.out _ _ ?_ ?_); (· first | exact .inr (Reord.use H (by ((repeat (with_reducible apply Reord.cons; (case p => (with_reducible repeat first | exact Pull.here | apply Pull.there)))); repeat (first | with_reducible exact Reord.rest | with_reducible apply Reord.drop))))); clear hK K; (try simp only [Act.put, sA, sB, sC]); (apply anyJ_one 7 (o := Oper.mk _ _ _ _ _ _)); (case hr => kernel_rfl); (case hi | hw => rfl); intro K hK; (first | (first | ((with_reducible apply opw_slice1 (vs := [.slice ra m rc]) H); (case hx => rfl); (case ht => exact Tryz.underlying71); (case hinfo => exact inf_50); (case hzs | hl => rfl); (case h0 => decide); (case h24 => exact Nat.le_of_ble_eq_true rfl); clear H; (try clear W); intro sb4 W H) ) ); (refine hK.out _ _ ?_ ?_); (· first | exact .inr (Reord.use H (by ((repeat (with_reducible apply Reord.cons; (case p => (with_reducible repeat first | exact Pull.here | apply Pull.there)))); repeat (first | with_reducible exact Reord.rest | with_reducible apply Reord.drop))))); clear hK K; (try simp only [Act.put, sA, sB, sC]); (apply anyJ_one 8 (o := Oper.mk _ _ _ _ _ _)); (case hr => kernel_rfl); (case hi | hw => rfl); intro K hK; (first | (first | ((with_reducible apply opw_app H); (case ht => exact Tryz.underlying71); (case hinfo => exact inf_50); (case hs | hx => rfl); (case hm => (with_reducible repeat first | exact Pull.here | apply Pull.there)); (case hzs => rfl); (case hsz => decide); (case hr => exact gives_blk (by (with_reducible repeat first | exact mH)) rfl (by omega)); (case h1 => (intro u hu; obtain rfl := List.mem_singleton.1 hu; rfl)); (case h63 => (simp only [maxLen]; omega)); (case hbytes => omega); clear H; (try clear W); intro A5 n5 c5 W hn5 H hle5 htop5; obtain rfl := hn5.out; clear hn5)) ); (refine hK.out _ _ ?_ ?_); (· first | exact .inl rfl ); clear hK K; (try simp only [Act.put, sA, sB, sC]); (apply anyJ_takeP 9 (oi := Oper.mk _ _ _ _ _ _) rfl); (case hs | hf => kernel_rfl); (case hr | hF => kernel_rfl); (case hQ => exact fun _ _ _ h => h); (case H => first | exact .inl rfl ); (case hy => first | (apply yields_pure rfl; intro w; first | (go_simp; with_reducible rfl) )); (try simp only [Act.put, sA, sB, sC]); (apply anyJ_takeP 10 (oi := Oper.mk _ _ _ _ _ _) rfl); (case hs | hf => kernel_rfl); (case hr | hF => kernel_rfl); (case hQ => exact fun _ _ _ h => h); (case H => first | exact .inl rfl ); (case hy => first | (apply yields_pure rfl; intro w; first | (go_simp; with_reducible rfl) )); (try simp only [Act.put, sA, sB, sC]); (apply anyJ_one 11 (o := Oper.mk _ _ _ _ _ _)); (case hr => kernel_rfl); (case hi | hw => rfl); intro K hK; (first | ((with_reducible apply opw_store1 H); (case hs => exact sz_sc _ rfl); (case hx => rfl); (case hy => (first | exact (rfl : _ = Value.slice _ _ _) )); (case hm => (with_reducible repeat first | exact Upd.here | apply Upd.there)); (case h1 => rfl); (case hk => exact Nat.le_of_ble_eq_true rfl); clear H; (try clear W); intro W H; simp only [setL, List.set_cons_zero, List.set_cons_succ] at H)); (refine hK.out _ _ ?_ ?_); (· first | exact .inl rfl ); clear hK K; (try simp only [Act.put, sA, sB, sC]); (apply anyJ_done (by kernel_rfl)))
            go_wp2_with (first | ((with_reducible apply wpl_load H); (case hs => exact sc _ rfl); (case hw | hx => rfl); (case hm => (with_reducible repeat first | exact mH | apply mT)); (case hv => rfl)) | ((with_reducible apply wpl_store1 H); (case hs => exact sz_sc _ rfl); (case hw | hx => rfl); (case hy => (first | exact (rfl : _ = Value.int _ _) )); (case hm => (with_reducible repeat first | exact Upd.here | apply Upd.there)); (case h1 => rfl); (case hk => exact Nat.le_of_ble_eq_true rfl); clear H; (try clear W); intro W H; simp only [setL, List.set_cons_zero, List.set_cons_succ] at H))
            have hql := srs_len (q := v.q) (ls := s.ls) H (by (with_reducible repeat first | exact mH | assumption | apply mT))
            have H3 : Holds W (ownE 5 1 (.slice ra m rc) m (bvs b) :: srsE v.q s.ls :: blk p [.pointer (some ⟨g, 0, none⟩), .int .i64 s.fr, .int .i64 s.mn, .int .i64 ((s.en : Int) + (i : Int)), .slice A5 (s.ls.length + 1) c5] 76 ::
              ownE 50 1 (.slice A5 (s.ls.length + 1) c5) (s.ls.length + 1) (List.zipWith rh v.q s.ls ++ [.slice ra m rc]) :: dkE g dv' d' :: L0) := Reord.use H (by ((repeat (with_reducible apply Reord.cons; (case p => (with_reducible repeat first | exact Pull.here | apply Pull.there)))); repeat (first | with_reducible exact Reord.rest | with_reducible apply Reord.drop)))
            have H4 := H3.to_row
            have es : rowE 5 ra m rc (bvs b) = srE (ra, rc) b := by unfold srE; rw [hbl]
            rw [es] at H4
            have H5 := srs_add H4
            have ez : List.zipWith rh v.q s.ls ++ [.slice ra m rc] = List.zipWith rh (v.q ++ [(ra, rc)]) (s.ls ++ [b]) := by
              rw [List.zipWith_append hql]
              unfold rh
              simp only [List.zipWith_cons_cons, List.zipWith_nil_left, hbl]
            rw [ez] at H5
            have hlen1 : (s.ls ++ [b]).length = s.ls.length + 1 := by rw [List.length_append]; rfl
            refine KO.out trivial ⟨A5, c5, v.q ++ [(ra, rc)]⟩ dv' _ (st_shut (p := p) (g := g) ⟨A5, c5, v.q ++ [(ra, rc)]⟩ ⟨s.fr, s.mn, s.en + i, s.ls ++ [b]⟩ ?_ ?_)
            · simp only [hlen1]
              exact Reord.use H5 (by rw [show (((s.en + i : Nat)) : Int) = (s.en : Int) + (i : Int) from by omega]; ((repeat (with_reducible apply Reord.cons; (case p => (with_reducible repeat first | exact Pull.here | apply Pull.there)))); repeat (with_reducible exact Reord.rest)))
            · refine ⟨Ho.out.m4, by simp only; omega, by simp only [hlen1]; omega, fun y hy => ?_⟩
              rcases List.mem_append.1 hy with h | h
              · exact Ho.out.l6 y h
              · obtain rfl := List.mem_singleton.1 h; omega
      · have hde : (descr i).map (toV p g xb xc s.en) = (desc1 i).map (toV p g xb xc s.en) ++ [syV g] ++ [laV p xb xc s.en 0] := by
          unfold descr; rw [if_neg hT1, List.map_append, List.append_assoc]; rfl
        have hdl : (descr i).length = i + 1 + 1 := by rw [descr_len hi1, if_neg hT1]
        have Hde := Lib.hid hde
        have Hdl := Lib.hid hdl
        clear hde hdl
        have hT1i : (1 : Int) < i := by omega
        go_wp2_with (first | ((with_reducible apply wpl_load H); (case hs => exact sc _ rfl); (case hw | hx => rfl); (case hm => (with_reducible repeat first | exact mH | apply mT)); (case hv => rfl)) | ((with_reducible apply wpl_slice1 (vs := [syV g]) H); (case hw | hx => rfl); (case ht => exact Tryz.underlying105); (case hinfo => exact inf_fn0); (case hzs | hl => rfl); (case h0 => decide); (case h24 => exact Nat.le_of_ble_eq_true rfl); clear H; (try clear W); intro sb W H) | ((with_reducible apply wpl_app H); (case hw => rfl); (case ht => exact Tryz.underlying105); (case hinfo => exact inf_fn0); (case hs | hx => rfl); (case hm => (with_reducible repeat first | exact Pull.here | apply Pull.there)); (case hzs => rfl); (case hsz => decide); (case hr => exact gives_blk (by (with_reducible repeat first | exact mH)) rfl (by omega)); (case h1 => (intro u hu; obtain rfl := List.mem_singleton.1 hu; rfl)); (case h63 => (simp only [maxLen]; omega)); (case hbytes => omega); clear H; (try clear W); intro A1 n1 c1 W hn1 H hle1 htop1; obtain rfl := hn1.out; clear hn1))
        ((refine wp_region_J [11] H (by kernel_rfl) ?_); clear H; (try clear W); intro W H; (apply anyJ_takeP 0 (oi := Oper.mk _ _ _ _ _ _) rfl); (case hs | hf => kernel_rfl); (case hr | hF => kernel_rfl); (case hQ => exact fun _ _ _ h => h); (case H => first | exact .inr H ); (case hy => first | (apply yields_pure rfl; intro w; first | (go_simp; with_reducible rfl) )); (try simp only [Act.put, sA, sB, sC]); (apply anyJ_takeP 1 (oi := Oper.mk _ _ _ _ _ _) rfl); (case hs | hf => kernel_rfl); (case hr | hF => kernel_rfl); (case hQ => exact fun _ _ _ h => h); (case H => first | exact .inr H ); (case hy => first | (apply yields_pure rfl; intro w; first | (go_simp; with_reducible rfl) )); (try simp only [Act.put, sA, sB, sC]); (apply anyJ_takeP 2 (oi := Oper.mk _ _ _ _ _ _) rfl); (case hs | hf => kernel_rfl); (case hr | hF => kernel_rfl); (case hQ => exact fun _ _ _ h => h); (case H => first | exact .inr H ); (case hy => first | (apply yields_pure rfl; intro w; first | (go_simp; with_reducible rfl) )); (try simp only [Act.put, sA, sB, sC]); (apply anyJ_takeP 3 (oi := Oper.mk _ _ _ _ _ _) rfl); (case hs | hf => kernel_rfl); (case hr | hF => kernel_rfl); (case hQ => exact fun _ _ _ h => h); (case H => first | exact .inr H ); (case hy => first | (apply yields_pure rfl; intro w; first | (go_simp; with_reducible rfl) )); (try simp only [Act.put, sA, sB, sC]); (apply anyJ_takeP 4 (oi := Oper.mk _ _ _ _ _ _) rfl); (case hs | hf => kernel_rfl); (case hr | hF => kernel_rfl); (case hQ => exact fun _ _ _ h => h); (case H => first | exact .inr H ); (case hy => first | (apply yields_pure rfl; intro w; first | (go_simp; with_reducible rfl) )); (try simp only [Act.put, sA, sB, sC]); (apply anyJ_takeP 6 (oi := Oper.mk _ _ _ _ _ _) rfl); (case hs | hf => kernel_rfl); (case hr | hF => kernel_rfl); (case hQ => exact fun _ _ _ h => h); (case H => first | exact .inr H ); (case hy => first | (apply yields_pure rfl; intro w; first | (go_simp; with_reducible rfl) )); (try simp only [Act.put, sA, sB, sC]); (apply anyJ_takeP 7 (oi := Oper.mk _ _ _ _ _ _) rfl); (case hs | hf => kernel_rfl); (case hr | hF => kernel_rfl); (case hQ => exact fun _ _ _ h => h); (case H => first | exact .inr H ); (case hy => first | ((apply yields_slice64); (case hw | hx | ht => rfl); (case hq => exact h64c)) ); (try simp only [Act.put, sA, sB, sC]); (apply anyJ_takeP 13 (oi := Oper.mk _ _ _ _ _ _) rfl); (case hs | hf => kernel_rfl); (case hr | hF => kernel_rfl); (case hQ => exact fun _ _ _ h => h); (case H => first | exact .inr H ); (case hy => first | (apply yields_pure rfl; intro w; first | (go_simp; with_reducible rfl) )); (try simp only [Act.put, sA, sB, sC]); (apply anyJ_take 5 (oi := Oper.mk _ _ _ _ _ _) rfl); (case hs | hf => kernel_rfl); (case hr | hc | hF => kernel_rfl); (case hQ => exact fun _ _ _ h => h); (case H => first | exact H ); (case hy => (first | ((apply yields_load); (case hs => exact sc _ rfl); (case hw | hx => rfl); (case hm => (with_reducible repeat first | exact mH | apply mT)); (case hv => rfl)) )); (try simp only [Act.put, sA, sB, sC]); (apply anyJ_takeP 8 (oi := Oper.mk _ _ _ _ _ _) rfl); (case hs | hf => kernel_rfl); (case hr | hF => kernel_rfl); (case hQ => exact fun _ _ _ h => h); (case H => first | exact .inr H ); (case hy => first | (apply yields_pure rfl; intro w; first | (go_simp; with_reducible rfl) )); (try simp only [Act.put, sA, sB, sC]); (apply anyJ_takeP 9 (oi := Oper.mk _ _ _ _ _ _) rfl); (case hs | hf => kernel_rfl); (case hr | hF => kernel_rfl); (case hQ => exact fun _ _ _ h => h); (case H => first | exact .inr H ); (case hy => first | (apply yields_pure rfl; intro w; first | (go_simp; with_reducible rfl) )); (try simp only [Act.put, sA, sB, sC]); (apply anyJ_one 10 (o := Oper.mk _ _ _ _ _ _)); (case hr => kernel_rfl); (case hi | hw => rfl); intro K hK; (first | (first | ((with_reducible apply opw_slice1 (vs := [.func (.func 57) #[.agg #[.pointer (some ⟨p, 0, none⟩), .int .i64 s.en, .slice (some ⟨xb, 0, none⟩) 64 xc]] #[]]) H); (case hx => rfl); (case ht => exact Tryz.underlying105); (case hinfo => exact inf_fn0); (case hzs | hl => rfl); (case h0 => decide); (case h24 => exact Nat.le_of_ble_eq_true rfl); clear H; (try clear W); intro sb3 W H) ) ); (refine hK.out _ _ ?_ ?_); (· first | exact .inr (Reord.use H (by ((repeat (with_reducible apply Reord.cons; (case p => (with_reducible repeat first | exact Pull.here | apply Pull.there)))); repeat (first | with_reducible exact Reord.rest | with_reducible apply Reord.drop))))); clear hK K; (try simp only [Act.put, sA, sB, sC]); (apply anyJ_one 11 (o := Oper.mk _ _ _ _ _ _)); (case hr => kernel_rfl); (case hi | hw => rfl); intro K hK; (first | (first | ((with_reducible apply opw_app H); (case ht => exact Tryz.underlying105); (case hinfo => exact inf_fn0); (case hs | hx => rfl); (case hm => (with_reducible repeat first | exact Pull.here | apply Pull.there)); (case hzs => rfl); (case hsz => decide); (case hr => exact gives_blk (by (with_reducible repeat first | exact mH)) rfl (by omega)); (case h1 => (intro u hu; obtain rfl := List.mem_singleton.1 hu; rfl)); (case h63 => (simp only [maxLen]; omega)); (case hbytes => omega); clear H; (try clear W); intro A2 n2 c2 W hn2 H hle2 htop2; obtain rfl := hn2.out; clear hn2)) ); (refine hK.out _ _ ?_ ?_); (· first | exact .inl rfl ); clear hK K; (try simp only [Act.put, sA, sB, sC]); (apply anyJ_takeP 12 (oi := Oper.mk _ _ _ _ _ _) rfl); (case hs | hf => kernel_rfl); (case hr | hF => kernel_rfl); (case hQ => exact fun _ _ _ h => h); (case H => first | exact .inl rfl ); (case hy => first | (apply yields_pure rfl; intro w; first | (go_simp; with_reducible rfl) )); (try simp only [Act.put, sA, sB, sC]); (apply anyJ_done (by kernel_rfl)))
        rw [← laV0, ← Hde.out, ← Hdl.out] at H
        rw [← Hdl.out]
        obtain ⟨n, hn⟩ : ∃ n, (descr i).length = n := ⟨_, rfl⟩
        have Hn := Lib.hid hn
        have hn2 : n ≤ i + 2 := by have := Hdl.out; omega
        have hn3 := hn.symm.trans Hdl.out
        have hn4 := Nat.le_of_eq hn3
        have hn5 := Nat.le_of_eq hn3.symm
        clear hn3
        rw [hn] at H ⊢
        clear hn
        go_wp2_with (first | go_big_skip )
        go_loopw [94] (fun iv wr => ∃ (q : Nat) (dv' : Dv) (dq : Dd), q ≤ n ∧ iv = .int .i64 q ∧ runS ((descr i).map (toS (s.fr + s.en) F)) d = runS (((descr i).drop q).map (toS (s.fr + s.en) F)) dq ∧ dq.su.length = d.su.length ∧ dq.wa.length ≤ d.wa.length + q ∧ Holds wr (ownE 55 1 (.slice A2 n c2) n ((descr i).map (toV p g xb xc s.en)) :: ownE 5 1 (.slice (some ⟨xb, 0, none⟩) (i * 64) xc) (i * 64) (bvs x) :: blk p [.pointer (some ⟨g, 0, none⟩), .int .i64 s.fr, .int .i64 s.mn, .int .i64 s.en, .slice v.A s.ls.length v.c] 76 :: ownE 50 1 (.slice v.A s.ls.length v.c) s.ls.length (List.zipWith rh v.q s.ls) :: srsE v.q s.ls :: dkE g dv' dq :: L0)) (fun iv _ => n - (intOf iv).toNat)
        case atStart => exact ⟨0, dv, d, by omega, rfl, rfl, rfl, by omega, Reord.use H (by ((repeat (with_reducible apply Reord.cons; (case p => (with_reducible repeat first | exact Pull.here | apply Pull.there)))); repeat (first | with_reducible exact Reord.rest | with_reducible apply Reord.drop)))⟩
        case round =>
          clear H W
          obtain ⟨q, dv', dq, hq, rfl, hw, hsuq, hwa, H⟩ := hrel
          rename World => W
          have Hw := Lib.hid hw
          have Hsuq := Lib.hid hsuq
          clear hw hsuq
          by_cases hqn : q < n
          · have hqi : (q : Int) < n := by omega
            obtain ⟨y, hy⟩ : ∃ y, (descr i)[q]? = some y := ⟨_, List.getElem?_eq_getElem (by rw [Hn.out]; exact hqn)⟩
            have hv : ((descr i).map (toV p g xb xc s.en))[q]? = some (toV p g xb xc s.en y) := by rw [List.getElem?_map, hy]; rfl
            have hru := Hw.out
            rw [runS_drop hy] at hru
            obtain ⟨ab, rfl⟩ := own_some H.head (by omega)
            have Hv := Lib.hid hv
            have hwl' : Hid (dq.wa.length ≤ 1000000) := Lib.hid (by omega)
            have hoq := dk_ok' (H.all (dkE g dv' dq) (by (with_reducible repeat first | exact mH | assumption | apply mT)))
            cases y with
            | none =>
              obtain ⟨d2, e2, hz2⟩ : ∃ d2 e2, dq.sync = (d2, e2) := ⟨_, _, rfl⟩
              rw [show toS (s.fr + s.en) F none = none from rfl, runS, hz2] at hru
              simp only at hru
              have hsu2 : d2.su.length = d.su.length := by have := sync_su dq hoq.nn; rw [hz2] at this; exact this.trans Hsuq.out
              have hwa2 : d2.wa.length ≤ d.wa.length + (q + 1) := by have := sync_wa dq; rw [hz2] at this; simp only at this; omega
              have Hz2 := Lib.hid hz2
              have Hru := Lib.hid hru
              clear hru hz2 hy hv hoq
              by_cases he2 : e2 = 0
              · subst he2
                go_wp2_with (first | ((with_reducible apply wpl_loadVs0 (j := q) (v := .func (.func 43) #[.pointer (some ⟨g, 0, none⟩)] #[]) H); (case hs => exact sc_fn0); (case hw | hx => rfl); (case hm => exact gives_own (by (with_reducible repeat first | exact mH)) rfl); (case hj => omega); (case hv => exact Hv.out)) | ((with_reducible apply dsync_c); (case hz => exact Hz2.out); (case H => exact H); (case hm => (with_reducible repeat first | exact Pull.here | apply Pull.there)); clear H; (try clear W); intro dv2 W H))
                exact ⟨⟨q + 1, dv2, d2, by omega, congrArg (Value.int .i64) (by omega), Hru.out.trans (if_pos trivial), hsu2, hwa2, Reord.use H (by ((repeat (with_reducible apply Reord.cons; (case p => (with_reducible repeat first | exact Pull.here | apply Pull.there)))); repeat (with_reducible exact Reord.rest)))⟩, by simp only [intOf]; omega⟩
              · have heb : (e2 == 0) = false := by rw [beq_eq_false_iff_ne]; exact he2
                have hfin := Hz.out.symm.trans (Hru.out.trans (if_neg he2))
                obtain ⟨hd2, he3⟩ := Prod.mk.inj hfin
                subst hd2 he3
                clear hfin
                go_wp2_with (first | ((with_reducible apply wpl_loadVs0 (j := q) (v := .func (.func 43) #[.pointer (some ⟨g, 0, none⟩)] #[]) H); (case hs => exact sc_fn0); (case hw | hx => rfl); (case hm => exact gives_own (by (with_reducible repeat first | exact mH)) rfl); (case hj => omega); (case hv => exact Hv.out)) | ((with_reducible apply dsync_c); (case hz => exact Hz2.out); (case H => exact H); (case hm => (with_reducible repeat first | exact Pull.here | apply Pull.there)); clear H; (try clear W); intro dv2 W H))
                exact KE.out he2 dv2 _ (Reord.use (st_shut (p := p) (g := g) v s (Reord.use H (by ((repeat (with_reducible apply Reord.cons; (case p => (with_reducible repeat first | exact Pull.here | apply Pull.there)))); repeat (with_reducible exact Reord.rest)))) Ho.out) (by ((repeat (with_reducible apply Reord.cons; (case p => (with_reducible repeat first | exact Pull.here)))); repeat (first | with_reducible exact Reord.rest | with_reducible apply Reord.drop))))
            | some j =>
              have hjT := descr_lt hi1 j (List.mem_of_getElem? hy)
              have hsec := HF.out j hjT
              obtain ⟨sec, hse⟩ : ∃ sec, (x.drop (j * 64)).take 64 = sec := ⟨_, rfl⟩
              rw [hse] at hsec
              have hGx : Gives [ownE 5 1 (.slice (some ⟨xb, 0, none⟩) (i * 64) xc) (i * 64) (bvs x)] fun w => Rd w 1 (some ⟨xb, j * 64, none⟩) 64 (xc - j * 64) (bvs sec) := (gives_own (List.mem_singleton.2 rfl) rfl).imp fun w h => by rw [← hse]; exact secA j (by omega) h
              obtain ⟨d2, e2, hz2⟩ : ∃ d2 e2, dq.write ((s.fr + (s.en + j) : Nat) : Int) sec = (d2, e2) := ⟨_, _, rfl⟩
              rw [show toS (s.fr + s.en) F (some j) = some (s.fr + (s.en + j), sec) from by show some (s.fr + s.en + j, F[j]?.getD []) = _; rw [hsec, Option.getD_some, Nat.add_assoc], runS, hz2] at hru
              simp only at hru
              have hsu2 : d2.su.length = d.su.length := by have := write_su dq ((s.fr + (s.en + j) : Nat) : Int) sec; rw [hz2] at this; rw [this]; exact Hsuq.out
              have hwa2 : d2.wa.length ≤ d.wa.length + (q + 1) := by have := write_wa dq ((s.fr + (s.en + j) : Nat) : Int) sec; rw [hz2] at this; simp only at this; omega
              have Hz2 := Lib.hid hz2
              have Hru := Lib.hid hru
              have HGx := Lib.hid hGx
              clear hru hz2 hy hv hoq hsec hse hGx
              by_cases he2 : e2 = 0
              · subst he2
                go_wp2_with (first | ((with_reducible apply wpl_loadVs0 (j := q) (v := .func (.func 57) #[.agg #[.pointer (some ⟨p, 0, none⟩), .int .i64 ((s.en : Int) + (j : Int)), .slice (some ⟨xb, j * 64, none⟩) 64 (xc - j * 64)]] #[]) H); (case hs => exact sc_fn0); (case hw | hx => rfl); (case hm => exact gives_own (by (with_reducible repeat first | exact mH)) rfl); (case hj => omega); (case hv => exact Hv.out)) | ((with_reducible apply lay_at (s.en + j) sec); (case H => exact H); (case hm => (with_reducible repeat first | exact Pull.here | apply Pull.there)); (case hp => (with_reducible repeat first | exact mH | apply mT)); (case hN => omega); (case hz => exact Hz2.out); (case hfa => omega); (case hlen => exact hwl'.out); (case hr => exact gives_sub HGx.out (by (with_reducible repeat first | exact mH | apply mT))); clear H; (try clear W); intro dv2 W H))
                exact ⟨⟨q + 1, dv2, d2, by omega, congrArg (Value.int .i64) (by omega), Hru.out.trans (if_pos trivial), hsu2, hwa2, Reord.use H (by ((repeat (with_reducible apply Reord.cons; (case p => (with_reducible repeat first | exact Pull.here | apply Pull.there)))); repeat (with_reducible exact Reord.rest)))⟩, by simp only [intOf]; omega⟩
              · have heb : (e2 == 0) = false := by rw [beq_eq_false_iff_ne]; exact he2
                have hfin := Hz.out.symm.trans (Hru.out.trans (if_neg he2))
                obtain ⟨hd2, he3⟩ := Prod.mk.inj hfin
                subst hd2 he3
                clear hfin
                go_wp2_with (first | ((with_reducible apply wpl_loadVs0 (j := q) (v := .func (.func 57) #[.agg #[.pointer (some ⟨p, 0, none⟩), .int .i64 ((s.en : Int) + (j : Int)), .slice (some ⟨xb, j * 64, none⟩) 64 (xc - j * 64)]] #[]) H); (case hs => exact sc_fn0); (case hw | hx => rfl); (case hm => exact gives_own (by (with_reducible repeat first | exact mH)) rfl); (case hj => omega); (case hv => exact Hv.out)) | ((with_reducible apply lay_at (s.en + j) sec); (case H => exact H); (case hm => (with_reducible repeat first | exact Pull.here | apply Pull.there)); (case hp => (with_reducible repeat first | exact mH | apply mT)); (case hN => omega); (case hz => exact Hz2.out); (case hfa => omega); (case hlen => exact hwl'.out); (case hr => exact gives_sub HGx.out (by (with_reducible repeat first | exact mH | apply mT))); clear H; (try clear W); intro dv2 W H))
                exact KE.out he2 dv2 _ (Reord.use (st_shut (p := p) (g := g) v s (Reord.use H (by ((repeat (with_reducible apply Reord.cons; (case p => (with_reducible repeat first | exact Pull.here | apply Pull.there)))); repeat (with_reducible exact Reord.rest)))) Ho.out) (by ((repeat (with_reducible apply Reord.cons; (case p => (with_reducible repeat first | exact Pull.here)))); repeat (first | with_reducible exact Reord.rest | with_reducible apply Reord.drop))))
          · obtain rfl : q = n := by omega
            have hfin : (d', e) = (dq, 0) := Hz.out.symm.trans (Hw.out.trans (by rw [List.drop_of_length_le (Nat.le_of_eq Hn.out)]; rfl))
            obtain ⟨hd2, he3⟩ := Prod.mk.inj hfin
            subst hd2 he3
            clear hfin
            have hmm : m ≤ 1000000 := by omega
            go_wp2_with (first | go_big_skip )
            ((refine wp_region_J [8, 11] H (by kernel_rfl) ?_); clear H; (try clear W); intro W H; (apply anyJ_takeP 0 (oi := Oper.mk _ _ _ _ _ _) rfl); (case hs | hf => kernel_rfl); (case hr | hF => kernel_rfl); (case hQ => exact fun _ _ _ h => h); (case H => first | exact .inr H ); (case hy => first | (apply yields_pure rfl; intro w; first | (go_simp; with_reducible rfl) )); (try simp only [Act.put, sA, sB, sC]); (apply anyJ_takeP 1 (oi := Oper.mk _ _ _ _ _ _) rfl); (case hs | hf => kernel_rfl); (case hr | hF => kernel_rfl); (case hQ => exact fun _ _ _ h => h); (case H => first | exact .inr H ); (case hy => first | (apply yields_pure rfl; intro w; first | (go_simp; with_reducible rfl) )); (try simp only [Act.put, sA, sB, sC]); (apply anyJ_takeP 2 (oi := Oper.mk _ _ _ _ _ _) rfl); (case hs | hf => kernel_rfl); (case hr | hF => kernel_rfl); (case hQ => exact fun _ _ _ h => h); (case H => first | exact .inr H ); (case hy => first | (apply yields_pure rfl; intro w; first | (go_simp; with_reducible rfl) )); (try simp only [Act.put, sA, sB, sC]); (apply anyJ_takeP 3 (oi := Oper.mk _ _ _ _ _ _) rfl); (case hs | hf => kernel_rfl); (case hr | hF => kernel_rfl); (case hQ => exact fun _ _ _ h => h); (case H => first | exact .inr H ); (case hy => first | (apply yields_pure rfl; intro w; first | (go_simp; with_reducible rfl) )); (try simp only [Act.put, sA, sB, sC]); (apply anyJ_takeP 5 (oi := Oper.mk _ _ _ _ _ _) rfl); (case hs | hf => kernel_rfl); (case hr | hF => kernel_rfl); (case hQ => exact fun _ _ _ h => h); (case H => first | exact .inr H ); (case hy => first | (apply yields_pure rfl; intro w; first | (go_simp; with_reducible rfl) )); (try simp only [Act.put, sA, sB, sC]); (apply anyJ_take 4 (oi := Oper.mk _ _ _ _ _ _) rfl); (case hs | hf => kernel_rfl); (case hr | hc | hF => kernel_rfl); (case hQ => exact fun _ _ _ h => h); (case H => first | exact H ); (case hy => (first | ((apply yields_load); (case hs => exact sc _ rfl); (case hw | hx => rfl); (case hm => (with_reducible repeat first | exact mH | apply mT)); (case hv => rfl)) )); (try simp only [Act.put, sA, sB, sC]); (apply anyJ_one 6 (o := Oper.mk _ _ _ _ _ _)); (case hr => kernel_rfl); (case hi | hw => rfl); intro K hK; (first | (first | (go_simp; (with_reducible apply bclone_k (l := b)); (case H => exact H); (case G => (repeat (first | exact HG.out | with_reducible apply Gives.cons))); (case hm => exact hmm); clear H; (try clear W); intro ra rn rc W hrn H; obtain rfl := hrn.symm; clear hrn) ) ); (refine hK.out _ _ ?_ ?_); (· first | exact .inr (Reord.use H (by ((repeat (with_reducible apply Reord.cons; (case p => (with_reducible repeat first | exact Pull.here | apply Pull.there)))); repeat (first | with_reducible exact Reord.rest | with_reducible apply Reord.drop))))); clear hK K; (try simp only [Act.put, sA, sB, sC]); (apply anyJ_one 7 (o := Oper.mk _ _ _ _ _ _)); (case hr => kernel_rfl); (case hi | hw => rfl); intro K hK; (first | (first | ((with_reducible apply opw_slice1 (vs := [.slice ra m rc]) H); (case hx => rfl); (case ht => exact Tryz.underlying71); (case hinfo => exact inf_50); (case hzs | hl => rfl); (case h0 => decide); (case h24 => exact Nat.le_of_ble_eq_true rfl); clear H; (try clear W); intro sb4 W H) ) ); (refine hK.out _ _ ?_ ?_); (· first | exact .inr (Reord.use H (by ((repeat (with_reducible apply Reord.cons; (case p => (with_reducible repeat first | exact Pull.here | apply Pull.there)))); repeat (first | with_reducible exact Reord.rest | with_reducible apply Reord.drop))))); clear hK K; (try simp only [Act.put, sA, sB, sC]); (apply anyJ_one 8 (o := Oper.mk _ _ _ _ _ _)); (case hr => kernel_rfl); (case hi | hw => rfl); intro K hK; (first | (first | ((with_reducible apply opw_app H); (case ht => exact Tryz.underlying71); (case hinfo => exact inf_50); (case hs | hx => rfl); (case hm => (with_reducible repeat first | exact Pull.here | apply Pull.there)); (case hzs => rfl); (case hsz => decide); (case hr => exact gives_blk (by (with_reducible repeat first | exact mH)) rfl (by omega)); (case h1 => (intro u hu; obtain rfl := List.mem_singleton.1 hu; rfl)); (case h63 => (simp only [maxLen]; omega)); (case hbytes => omega); clear H; (try clear W); intro A5 n5 c5 W hn5 H hle5 htop5; obtain rfl := hn5.out; clear hn5)) ); (refine hK.out _ _ ?_ ?_); (· first | exact .inl rfl ); clear hK K; (try simp only [Act.put, sA, sB, sC]); (apply anyJ_takeP 9 (oi := Oper.mk _ _ _ _ _ _) rfl); (case hs | hf => kernel_rfl); (case hr | hF => kernel_rfl); (case hQ => exact fun _ _ _ h => h); (case H => first | exact .inl rfl ); (case hy => first | (apply yields_pure rfl; intro w; first | (go_simp; with_reducible rfl) )); (try simp only [Act.put, sA, sB, sC]); (apply anyJ_takeP 10 (oi := Oper.mk _ _ _ _ _ _) rfl); (case hs | hf => kernel_rfl); (case hr | hF => kernel_rfl); (case hQ => exact fun _ _ _ h => h); (case H => first | exact .inl rfl ); (case hy => first | (apply yields_pure rfl; intro w; first | (go_simp; with_reducible rfl) )); (try simp only [Act.put, sA, sB, sC]); (apply anyJ_one 11 (o := Oper.mk _ _ _ _ _ _)); (case hr => kernel_rfl); (case hi | hw => rfl); intro K hK; (first | ((with_reducible apply opw_store1 H); (case hs => exact sz_sc _ rfl); (case hx => rfl); (case hy => (first | exact (rfl : _ = Value.slice _ _ _) )); (case hm => (with_reducible repeat first | exact Upd.here | apply Upd.there)); (case h1 => rfl); (case hk => exact Nat.le_of_ble_eq_true rfl); clear H; (try clear W); intro W H; simp only [setL, List.set_cons_zero, List.set_cons_succ] at H)); (refine hK.out _ _ ?_ ?_); (· first | exact .inl rfl ); clear hK K; (try simp only [Act.put, sA, sB, sC]); (apply anyJ_done (by kernel_rfl)))
            go_wp2_with (first | ((with_reducible apply wpl_load H); (case hs => exact sc _ rfl); (case hw | hx => rfl); (case hm => (with_reducible repeat first | exact mH | apply mT)); (case hv => rfl)) | ((with_reducible apply wpl_store1 H); (case hs => exact sz_sc _ rfl); (case hw | hx => rfl); (case hy => (first | exact (rfl : _ = Value.int _ _) )); (case hm => (with_reducible repeat first | exact Upd.here | apply Upd.there)); (case h1 => rfl); (case hk => exact Nat.le_of_ble_eq_true rfl); clear H; (try clear W); intro W H; simp only [setL, List.set_cons_zero, List.set_cons_succ] at H))
            have hql := srs_len (q := v.q) (ls := s.ls) H (by (with_reducible repeat first | exact mH | assumption | apply mT))
            have H3 : Holds W (ownE 5 1 (.slice ra m rc) m (bvs b) :: srsE v.q s.ls :: blk p [.pointer (some ⟨g, 0, none⟩), .int .i64 s.fr, .int .i64 s.mn, .int .i64 ((s.en : Int) + (i : Int)), .slice A5 (s.ls.length + 1) c5] 76 ::
              ownE 50 1 (.slice A5 (s.ls.length + 1) c5) (s.ls.length + 1) (List.zipWith rh v.q s.ls ++ [.slice ra m rc]) :: dkE g dv' d' :: L0) := Reord.use H (by ((repeat (with_reducible apply Reord.cons; (case p => (with_reducible repeat first | exact Pull.here | apply Pull.there)))); repeat (first | with_reducible exact Reord.rest | with_reducible apply Reord.drop)))
            have H4 := H3.to_row
            have es : rowE 5 ra m rc (bvs b) = srE (ra, rc) b := by unfold srE; rw [hbl]
            rw [es] at H4
            have H5 := srs_add H4
            have ez : List.zipWith rh v.q s.ls ++ [.slice ra m rc] = List.zipWith rh (v.q ++ [(ra, rc)]) (s.ls ++ [b]) := by
              rw [List.zipWith_append hql]
              unfold rh
              simp only [List.zipWith_cons_cons, List.zipWith_nil_left, hbl]
            rw [ez] at H5
            have hlen1 : (s.ls ++ [b]).length = s.ls.length + 1 := by rw [List.length_append]; rfl
            refine KO.out trivial ⟨A5, c5, v.q ++ [(ra, rc)]⟩ dv' _ (st_shut (p := p) (g := g) ⟨A5, c5, v.q ++ [(ra, rc)]⟩ ⟨s.fr, s.mn, s.en + i, s.ls ++ [b]⟩ ?_ ?_)
            · simp only [hlen1]
              exact Reord.use H5 (by rw [show (((s.en + i : Nat)) : Int) = (s.en : Int) + (i : Int) from by omega]; ((repeat (with_reducible apply Reord.cons; (case p => (with_reducible repeat first | exact Pull.here | apply Pull.there)))); repeat (with_reducible exact Reord.rest)))
            · refine ⟨Ho.out.m4, by simp only; omega, by simp only [hlen1]; omega, fun y hy => ?_⟩
              rcases List.mem_append.1 hy with h | h
              · exact Ho.out.l6 y h
              · obtain rfl := List.mem_singleton.1 h; omega
end
end Go.Proofs.YtdnioigcgggdbaaGreatDoor
