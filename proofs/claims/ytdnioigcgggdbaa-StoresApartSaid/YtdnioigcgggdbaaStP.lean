/-
  stores: the walk of StoresApart.
-/
import Derived.Test.YtdnioigcgggdbaaStM
import Derived.Test.YtdnioigcgggdbaaOpN
set_option linter.unusedVariables false
set_option linter.unusedSimpArgs false
namespace Go.Proofs.Ytdnioigcgggdbaa
open Go.RowKit
/-- a disk with two stores. -/
structure Two (d : Dd) (l1 l2 : List (List UInt8)) (i : Nat) : Prop where
  free : d.free
  n3 : d.no.length = 320
  c1 : Clean d.no 0 160 (sects 0 l1)
  c2 : Clean d.no 160 160 (sects 0 l2)
  b1 : ∀ b ∈ l1, b.length ≤ 256
  b2 : ∀ b ∈ l2, b.length ≤ 256
  wa : d.wa.length ≤ 500000
  k1 : l1.length ≤ i
  k2 : l2.length ≤ i
theorem room_i {ls : List (List UInt8)} {i m : Nat} (h : ∀ b ∈ ls, b.length ≤ 256) (hl : ls.length ≤ i) (hm : m ≤ 256) (hi : i < 30) : (sects 0 ls).length + secs m ≤ 160 := by
  have h1 := sects_le ls 0 h
  have h2 := secs_5 hm
  omega
theorem snoc_len {ls : List (List UInt8)} {x : List UInt8} {i : Nat} (h : ls.length ≤ i) : (ls ++ [x]).length ≤ i + 1 := by rw [List.length_append]; simp; omega
section
variable {d d2 : Dd} {l1 l2 : List (List UInt8)} {i m : Nat} {x : List UInt8}
theorem Two.r1 (h : Two d l1 l2 i) (hm : m ≤ 256) (hi : i < 30) : (sects 0 l1).length + secs m ≤ 160 := room_i h.b1 h.k1 hm hi
theorem Two.r2 (h : Two d l1 l2 i) (hm : m ≤ 256) (hi : i < 30) : (sects 0 l2).length + secs m ≤ 160 := room_i h.b2 h.k2 hm hi
theorem Two.add1 (h : Two d l1 l2 i) (hk : Kp d2 0 160 (l1 ++ [x])) (hw : d2.wa.length = 1) (hO : Outside 0 160 d.no d2.no) : Two d2 (l1 ++ [x]) l2 (i + 1) :=
  ⟨hk.free, hO.su h.n3, hk.cl, h.c2.other hO (.inr (by decide)), hk.b6, h.b2, by omega, snoc_len h.k1, by have := h.k2; omega⟩
theorem Two.add2 (h : Two d l1 l2 i) (hk : Kp d2 160 160 (l2 ++ [x])) (hw : d2.wa.length = 1) (hO : Outside 160 160 d.no d2.no) : Two d2 l1 (l2 ++ [x]) (i + 1) :=
  ⟨hk.free, hO.su h.n3, h.c1.other hO (.inl (by decide)), hk.cl, h.b1, hk.b6, by omega, by have := h.k1; omega, snoc_len h.k2⟩
end
section
set_option maxRecDepth 100000 in
set_option maxHeartbeats 4000000 in
theorem storesApart_walk (W0 : World) {A : Option Addr} {n c : Nat} {hs : List Value} {ls : List (List UInt8)} (hr : Rd W0 1 A n c hs) (hl : ls.length = n)
    (hat : ∀ (j : Nat) (l : List UInt8), ls[j]? = some l → ∃ (B : Option Addr) (m k : Nat), hs[j]? = some (Value.slice B m k) ∧ Rd W0 1 B m k (bvs l)) (a0 : Int) (w0 : (Lit.int .u32 a0).wf = true) :
    Calls Try.prog 5 #[.slice A n c, .int .u32 a0] W0 fun e w' => e = .returned (.bool true) ∧ Ext W0 w' := by
  have h1 := argL_base hr hl hat
  have H := holds_base W0
  have HR : Hid (∀ w', Holds w' [base W0] → (Ending.returned (.bool true) = .returned (.bool true) ∧ Ext W0 w')) := Lib.hid fun w' h => ⟨rfl, h.head⟩
  generalize hB : base W0 = B0 at H HR h1
  generalize hRR : (fun (e : Ending) (w' : World) => e = .returned (.bool true) ∧ Ext W0 w') = R
  replace HR : Hid (∀ w', Holds w' [B0] → R (.returned (.bool true)) w') := Lib.hid fun w' h => by subst hRR; exact HR.out w' h
  have hle := hr.le
  have htop := hr.top
  unfold maxLen at htop
  clear hRR hB hr hat w0
  generalize W0 = W at H ⊢
  cases hsm : smallB ls with
  | false =>
    have Hsm := Lib.hid hsm
    clear hsm
    go_enter Try.func5, Try.ntmps5
    go_wp2_with (first | go_big_skip | ((with_reducible refine wpl_absorb H ?_); clear H; (first  | generalize W.heap.size = q0); (try clear W); intro W H) | ((with_reducible refine wpl_drew H ?_); clear H; (try clear W); intro W H) | ((with_reducible refine wpl_drewN H ?_); clear H; (try clear W); intro W H) | ((with_reducible apply wpl_load H); (case hs => exact sc _ rfl); (case hw => rfl); (case hx => rfl); (case hm => (repeat (first | with_reducible exact mH | with_reducible assumption | with_reducible apply mT))); (case hv => rfl)) | ((with_reducible apply alive_k H); clear H; (try clear W); intro W H) | ((with_reducible apply small_k (ls := ls)); (case H => exact H); (case h1 => exact h1.rdl (by (repeat (first | with_reducible exact mH | with_reducible assumption | with_reducible apply mT)))); clear H; (try clear W); intro W H; rw [Hsm.out]))
    exact HR.out _ (Reord.use H (by ((repeat (with_reducible apply Reord.cons; (case p => (repeat (first | with_reducible exact Pull.here | with_reducible apply Pull.there))))); repeat (first | with_reducible exact Reord.rest | with_reducible apply Reord.drop))))
  | true =>
    obtain ⟨hs30, hs6⟩ := smallB_256 hsm
    have Hsm := Lib.hid hsm
    have Hs6 := Lib.hid hs6
    clear hsm hs6
    go_enter Try.func5, Try.ntmps5
    go_wp2_with (first | go_big_skip | ((with_reducible refine wpl_absorb H ?_); clear H; (first  | generalize W.heap.size = q0); (try clear W); intro W H) | ((with_reducible refine wpl_drew H ?_); clear H; (try clear W); intro W H) | ((with_reducible refine wpl_drewN H ?_); clear H; (try clear W); intro W H) | ((with_reducible apply wpl_load H); (case hs => exact sc _ rfl); (case hw => rfl); (case hx => rfl); (case hm => (repeat (first | with_reducible exact mH | with_reducible assumption | with_reducible apply mT))); (case hv => rfl)) | ((with_reducible apply alive_k H); clear H; (try clear W); intro W H) | ((with_reducible apply small_k (ls := ls)); (case H => exact H); (case h1 => exact h1.rdl (by (repeat (first | with_reducible exact mH | with_reducible assumption | with_reducible apply mT)))); clear H; (try clear W); intro W H; rw [Hsm.out]) | ((with_reducible apply new_n 320); (case hN => rfl); (case h0 => decide); (case h1 => decide); (case H => exact H); clear H; (try clear W); intro g dv0 W H) | ((with_reducible apply sopen_cl 0 160 []); (case hN => rfl); (case hM => rfl); (case H => exact H); (case hm => (repeat (first | with_reducible exact Pull.here | with_reducible apply Pull.there))); (case h1 => decide); (case h2 => decide); (case hf => exact free_new _); (case hwa => exact Nat.zero_le _); (case hC => exact clean_new 320 0 160 (by decide)); (case hb => exact nil_256); clear H; (try clear W); intro pa va dv1 W H) | ((with_reducible apply sopen_cl 160 160 []); (case hN => rfl); (case hM => rfl); (case H => exact H); (case hm => (repeat (first | with_reducible exact Pull.here | with_reducible apply Pull.there))); (case h1 => decide); (case h2 => decide); (case hf => exact free_new _); (case hwa => exact Nat.zero_le _); (case hC => exact clean_new 320 160 160 (by decide)); (case hb => exact nil_256); clear H; (try clear W); intro pb vb dv2 W H))
    have hk0 : Two (dnew (List.replicate 320 zsec)) [] [] 0 := ⟨free_new _, by simp only [dnew, List.length_replicate], clean_new 320 0 160 (by decide), clean_new 320 160 160 (by decide), nil_256, nil_256, Nat.zero_le _, Nat.le_refl _, Nat.le_refl _⟩
    go_loopw [11, 12, 13] (fun s1 s2 iv wr => ∃ (i : Nat) (d : Dd) (va vb : Sv) (dv : Dv) (l1 l2 : List (List UInt8)) (x1 x2 : List Value) (A1 A2 : Option Addr) (c1 c2 : Nat), i ≤ n ∧ iv = .int .i64 i ∧ s1 = .slice A1 l1.length c1 ∧ s2 = .slice A2 l2.length c2 ∧ Two d l1 l2 i ∧ Picks B0 x1 l1 ∧ Picks B0 x2 l2 ∧
      Holds wr (stE pa g va (sdOf 0 160 l1) :: stE pb g vb (sdOf 160 160 l2) :: dkE g dv d :: ownE 22 1 (.slice A1 l1.length c1) l1.length x1 :: ownE 22 1 (.slice A2 l2.length c2) l2.length x2 :: [B0])) (fun _ _ iv _ => n - (intOf iv).toNat)
    case atStart =>
      have H2 : Holds W [stE pb g vb (sdOf 160 160 []), dkE g dv2 (dnew (List.replicate 320 zsec)), stE pa g va (sdOf 0 160 []), B0] := H
      exact ⟨0, dnew (List.replicate 320 zsec), va, vb, dv2, [], [], [], [], none, none, 0, 0, by omega, rfl, rfl, rfl, hk0, Picks.nil _, Picks.nil _, Reord.use ((H2.add_nil 22 1).add_nil 22 1) (by simp only [List.length_nil]; ((repeat (with_reducible apply Reord.cons; (case p => (repeat (first | with_reducible exact Pull.here | with_reducible apply Pull.there))))); repeat (first | with_reducible exact Reord.rest | with_reducible apply Reord.drop)))⟩
    case round =>
      clear H W hk0
      obtain ⟨i, d, va, vb, dv, l1, l2, x1, x2, A1, A2, c1, c2, hi, rfl, rfl, rfl, hS, hP1, hP2, H⟩ := hrel
      rename World => W
      have hk1 := hS.k1
      have hk2 := hS.k2
      have HS := Lib.hid hS
      have HP1 := Lib.hid hP1
      have HP2 := Lib.hid hP2
      clear hS hP1 hP2
      by_cases hlt : i < n
      · have hii : (i : Int) < n := by omega
        obtain ⟨x, hx⟩ : ∃ x, ls[i]? = some x := ⟨_, List.getElem?_eq_getElem (by omega)⟩
        obtain ⟨B, m, cb, hh, gb⟩ := h1.at_ i x hx
        have hxm := (gb _ (by (repeat (first | with_reducible exact mH | with_reducible assumption | with_reducible apply mT))) W H).blen
        have hm6 : m ≤ 256 := by rw [← hxm]; exact Hs6.out x (List.mem_of_getElem? hx)
        obtain ⟨a1, o1, rfl, -⟩ := (h1.head _ (by (repeat (first | with_reducible exact mH | with_reducible assumption | with_reducible apply mT))) W H).at_ (by omega)
        have HGB := Lib.hid gb
        have Hh := Lib.hid hh
        clear hh hx gb
        have e1 : (l1 ++ [x]).length = l1.length + 1 := by rw [List.length_append]; rfl
        have e2 : (l2 ++ [x]).length = l2.length + 1 := by rw [List.length_append]; rfl
        have E1 := Lib.hid e1
        have E2 := Lib.hid e2
        clear e1 e2
        go_wp2_with (first | go_big_skip | ((with_reducible refine wpl_absorb H ?_); clear H; (first  | generalize W.heap.size = q0); (try clear W); intro W H) | ((with_reducible refine wpl_drew H ?_); clear H; (try clear W); intro W H) | ((with_reducible refine wpl_drewN H ?_); clear H; (try clear W); intro W H) | ((with_reducible apply wpl_load H); (case hs => exact sc _ rfl); (case hw => rfl); (case hx => rfl); (case hm => (repeat (first | with_reducible exact mH | with_reducible assumption | with_reducible apply mT))); (case hv => rfl)) | ((with_reducible apply wpl_loadVs (o := o1) (j := i) (v := .slice B m cb) H); (case hs => exact sc _ rfl); (case hw => rfl); (case hx => rfl); (case hm => exact h1.head _ (by (repeat (first | with_reducible exact mH | with_reducible assumption | with_reducible apply mT)))); (case hj => omega); (case hv => exact Hh.out)) | ((with_reducible apply sadd_f (b := x) 0 160 l1); (case H => exact H); (case hm => (repeat (first | with_reducible exact Pull.here | with_reducible apply Pull.there))); (case hm2 => (repeat (first | with_reducible exact Pull.here | with_reducible apply Pull.there))); (case hf => exact HS.out.free); (case hC => exact HS.out.c1); (case hb6 => exact HS.out.b1); (case hm6 => exact hm6); (case hroom => exact HS.out.r1 hm6 (by omega)); (case hwa => exact HS.out.wa); (case G => exact HGB.out _ (by (repeat (first | with_reducible exact mH | with_reducible assumption | with_reducible apply mT)))); clear H; (try clear W); intro d2 v2 dv2 W hkp2 hw2 hO2 H; have HS2 := Lib.hid (HS.out.add1 hkp2 hw2 hO2); clear hkp2 hw2 hO2) | ((with_reducible apply sadd_f (b := x) 160 160 l2); (case H => exact H); (case hm => (repeat (first | with_reducible exact Pull.here | with_reducible apply Pull.there))); (case hm2 => (repeat (first | with_reducible exact Pull.here | with_reducible apply Pull.there))); (case hf => exact HS.out.free); (case hC => exact HS.out.c2); (case hb6 => exact HS.out.b2); (case hm6 => exact hm6); (case hroom => exact HS.out.r2 hm6 (by omega)); (case hwa => exact HS.out.wa); (case G => exact HGB.out _ (by (repeat (first | with_reducible exact mH | with_reducible assumption | with_reducible apply mT)))); clear H; (try clear W); intro d2 v2 dv2 W hkp2 hw2 hO2 H; have HS2 := Lib.hid (HS.out.add2 hkp2 hw2 hO2); clear hkp2 hw2 hO2) | ((with_reducible apply wpl_slice1 (vs := [.slice B m cb]) H); (case hw => rfl); (case hx => rfl); (case ht => exact Try.underlying25); (case hinfo => exact inf_22); (case hzs => rfl); (case hl => rfl); (case h0 => decide); (case h24 => exact Nat.le_of_ble_eq_true rfl); clear H; (try clear W); intro sb W H) | ((with_reducible apply wpl_app H); (case hw => rfl); (case ht => exact Try.underlying25); (case hinfo => exact inf_22); (case hs => rfl); (case hx => rfl); (case hm => (repeat (first | with_reducible exact Pull.here | with_reducible apply Pull.there))); (case hzs => rfl); (case hsz => decide); (case hr => exact gives_blk (by (repeat (first | with_reducible exact mH | with_reducible assumption | with_reducible apply mT))) rfl (by omega)); (case h1 => (intro u hu; obtain rfl := List.mem_singleton.1 hu; rfl)); (case h63 => (simp only [maxLen]; omega)); (case hbytes => omega); clear H; (try clear W); intro A5 n5 c5 W hn5 H hle5 htop5; obtain rfl := hn5.out; clear hn5))
        · exact ⟨⟨i + 1, d2, v2, vb, dv2, l1 ++ [x], l2, x1 ++ [.slice B m cb], x2, A5, A2, c5, c2, by omega, congrArg (Value.int .i64) (by omega), by rw [E1.out], rfl, HS2.out, HP1.out.snoc HGB.out, HP2.out, Reord.use H (by rw [E1.out]; ((repeat (with_reducible apply Reord.cons; (case p => (repeat (first | with_reducible exact Pull.here | with_reducible apply Pull.there))))); repeat (first | with_reducible exact Reord.rest | with_reducible apply Reord.drop)))⟩, by simp only [intOf]; omega⟩
        · exact ⟨⟨i + 1, d2, va, v2, dv2, l1, l2 ++ [x], x1, x2 ++ [.slice B m cb], A1, A5, c1, c5, by omega, congrArg (Value.int .i64) (by omega), rfl, by rw [E2.out], HS2.out, HP1.out, HP2.out.snoc HGB.out, Reord.use H (by rw [E2.out]; ((repeat (with_reducible apply Reord.cons; (case p => (repeat (first | with_reducible exact Pull.here | with_reducible apply Pull.there))))); repeat (first | with_reducible exact Reord.rest | with_reducible apply Reord.drop)))⟩, by simp only [intOf]; omega⟩
      · obtain rfl : i = n := by omega
        have hdn : d.su.length = 320 := (dk_ok' (H.all (dkE g dv d) (by (repeat (first | with_reducible exact mH | with_reducible assumption | with_reducible apply mT))))).nn.symm.trans HS.out.n3
        have Hsu : Hid (0 + 160 ≤ d.su.length) := Lib.hid (by omega)
        have Hno : Hid (160 + 160 ≤ (dnew d.no).su.length) := Lib.hid (by have := HS.out.n3; simp only [dnew]; omega)
        clear hdn
        go_wp2_with (first | go_big_skip | ((with_reducible refine wpl_absorb H ?_); clear H; (first  | generalize W.heap.size = q0); (try clear W); intro W H) | ((with_reducible refine wpl_drew H ?_); clear H; (try clear W); intro W H) | ((with_reducible refine wpl_drewN H ?_); clear H; (try clear W); intro W H) | ((with_reducible apply wpl_load H); (case hs => exact sc _ rfl); (case hw => rfl); (case hx => rfl); (case hm => (repeat (first | with_reducible exact mH | with_reducible assumption | with_reducible apply mT))); (case hv => rfl)) | ((with_reducible apply sopen_cl 0 160 l1); (case hN => rfl); (case hM => rfl); (case H => exact H); (case hm => (repeat (first | with_reducible exact Pull.here | with_reducible apply Pull.there))); (case h1 => exact Hsu.out); (case h2 => decide); (case hf => exact HS.out.free); (case hwa => exact HS.out.wa); (case hC => exact HS.out.c1); (case hb => exact HS.out.b1); clear H; (try clear W); intro pc vc dv3 W H) | ((with_reducible apply sopen_cl 160 160 l2); (case hN => rfl); (case hM => rfl); (case H => exact H); (case hm => (repeat (first | with_reducible exact Pull.here | with_reducible apply Pull.there))); (case h1 => exact Hno.out); (case h2 => decide); (case hf => exact free_new _); (case hwa => exact Nat.zero_le _); (case hC => exact HS.out.c2); (case hb => exact HS.out.b2); clear H; (try clear W); intro pd vd dv4 W H) | ((with_reducible apply has_k (ls := l1)); (case H => exact H); (case hm => (repeat (first | with_reducible exact Pull.here | with_reducible apply Pull.there))); (case hpre => exact fun _ _ h => h); (case h1 => exact HP1.out.rdl (by (repeat (first | with_reducible exact mH | with_reducible assumption | with_reducible apply mT))) (by (repeat (first | with_reducible exact mH | with_reducible assumption | with_reducible apply mT))) rfl); clear H; (try clear W); intro W H) | ((with_reducible apply has_k (ls := l2)); (case H => exact H); (case hm => (repeat (first | with_reducible exact Pull.here | with_reducible apply Pull.there))); (case hpre => exact fun _ _ h => h); (case h1 => exact HP2.out.rdl (by (repeat (first | with_reducible exact mH | with_reducible assumption | with_reducible apply mT))) (by (repeat (first | with_reducible exact mH | with_reducible assumption | with_reducible apply mT))) rfl); clear H; (try clear W); intro W H) | ((with_reducible apply slen_v (l1.length : Int)); (case H => exact H); (case hm => (repeat (first | with_reducible exact Pull.here | with_reducible apply Pull.there))); (case hn => rfl); clear H; (try clear W); intro W H) | ((with_reducible apply slen_v (l2.length : Int)); (case H => exact H); (case hm => (repeat (first | with_reducible exact Pull.here | with_reducible apply Pull.there))); (case hn => rfl); clear H; (try clear W); intro W H))
        exact HR.out _ (Reord.use H (by ((repeat (with_reducible apply Reord.cons; (case p => (repeat (first | with_reducible exact Pull.here | with_reducible apply Pull.there))))); repeat (first | with_reducible exact Reord.rest | with_reducible apply Reord.drop))))
end
end Go.Proofs.Ytdnioigcgggdbaa
