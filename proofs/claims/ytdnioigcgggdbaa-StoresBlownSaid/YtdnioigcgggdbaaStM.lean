/-
  stores: contracts of Open and Add where no fuse is.
  stores: the laws' helpers: opened, small, has, alive.
  stores: the laws' helpers: small, has.
  stores: an argument that is a slice of slices of bytes; small facts for the laws' walks.
-/
import Derived.Test.YtdnioigcgggdbaaSt9
import Derived.Test.YtdnioigcgggdbaaSpM
import Derived.Test.YtdnioigcgggdbaaRdL
import Derived.Test.YtdnioigcgggdbaaBlkF
import Derived.Test.YtdnioigcgggdbaaFlat
set_option linter.unusedVariables false
set_option linter.unusedSimpArgs false
namespace Go.Proofs.Ytdnioigcgggdbaa
open Go.RowKit
section
variable {W : World} {L L' L0 L1 : List Ent} {R : Ending → World → Prop} {p g : Nat} {v : Sv} {s : Sd} {dv : Dv} {d : Dd} {A : Option Addr} {m c : Nat} {b : List UInt8} {N M : Int} {ls : List (List UInt8)}
theorem new_n (n : Nat) (hN : N = (n : Int)) (h0 : 0 < n) (h1 : n ≤ 4096) (H : Holds W L) (k : ∀ g v w', Holds w' (dkE g v (dnew (List.replicate n zsec)) :: L) → R (.returned (.tuple #[.pointer (some ⟨g, 0, none⟩), .int .i64 0])) w') :
    Calls Try.prog 18 #[.int .i64 N] W R := by
  subst hN
  exact new_k n h0 h1 H k
theorem sopen_f (fr mn : Nat) (ls : List (List UInt8)) (hN : N = (fr : Int)) (hM : M = (mn : Int)) (h1 : fr + mn ≤ d.su.length) (h2 : 1 ≤ mn) (hf : d.free) (hwa : d.wa.length ≤ 500000) (hT : Torn d.no fr mn (sects 0 ls)) (hb : ∀ b ∈ ls, b.length ≤ 256) (H : Holds W L) (hm : Pull (dkE g dv d) L L0)
    (k : ∀ l' p v dv' w', Clean l' fr mn (sects 0 ls) → Outside fr mn d.no l' → Holds w' (stE p g v (sdOf fr mn ls) :: dkE g dv' (dnew l') :: L0) → R (.returned (.tuple #[.pointer (some ⟨p, 0, none⟩), .int .i64 0])) w') :
    Calls Try.prog 15 #[.pointer (some ⟨g, 0, none⟩), .int .i64 N, .int .i64 M] W R := by
  subst hN hM
  have ho := dk_ok' (H.all (dkE g dv d) hm.mem)
  have hn1 := ho.n1
  obtain ⟨l', e1, e2, e3⟩ := open_torn hf ho.nl ho.nn.symm (by omega) hT hb
  refine sopen_k fr mn h1 h2 H hm hwa (fun d' s p v dv' w' he h => ?_) (fun d' e dv' w' he h => ?_)
  · rw [e1] at he
    obtain ⟨rfl, hs, -⟩ := Prod.mk.inj he |>.imp id Prod.mk.inj
    cases hs
    exact k l' p v dv' w' e2 e3 h
  · rw [e1] at he
    cases he
theorem sopen_cl (fr mn : Nat) (ls : List (List UInt8)) (hN : N = (fr : Int)) (hM : M = (mn : Int)) (h1 : fr + mn ≤ d.su.length) (h2 : 1 ≤ mn) (hf : d.free) (hwa : d.wa.length ≤ 500000) (hC : Clean d.no fr mn (sects 0 ls)) (hb : ∀ b ∈ ls, b.length ≤ 256) (H : Holds W L) (hm : Pull (dkE g dv d) L L0)
    (k : ∀ p v dv' w', Holds w' (stE p g v (sdOf fr mn ls) :: dkE g dv' (dnew d.no) :: L0) → R (.returned (.tuple #[.pointer (some ⟨p, 0, none⟩), .int .i64 0])) w') :
    Calls Try.prog 15 #[.pointer (some ⟨g, 0, none⟩), .int .i64 N, .int .i64 M] W R :=
  sopen_f fr mn ls hN hM h1 h2 hf hwa hC.torn hb H hm fun l' p v dv' w' e2 e3 h => by
    rw [hC.same e2 e3] at h
    exact k p v dv' w' h
set_option maxRecDepth 100000 in
set_option maxHeartbeats 1000000 in
theorem sopen_arg (hNM : N < 0 ∨ M < 1 ∨ (d.su.length : Int) < N ∨ (d.su.length : Int) - N < M) (H : Holds W L) (hm : Pull (dkE g dv d) L L0) (k : ∀ w', Holds w' (dkE g dv d :: L0) → R (.returned (.tuple #[.pointer none, .int .i64 1])) w') :
    Calls Try.prog 15 #[.pointer (some ⟨g, 0, none⟩), .int .i64 N, .int .i64 M] W R := by
  have ho := dk_ok' (H.all (dkE g dv d) hm.mem)
  have h4 := ho.n1
  have h3 := ho.n0
  have H2 := H.pull hm
  clear H hm ho
  have H := H2
  clear H2
  have h0 : ((d.su.length : Int) == 0) = false := by rw [beq_eq_false_iff_ne]; omega
  have HK := Lib.hid k; clear k
  by_cases c1 : N < 0
  · clear hNM
    go_enter Try.func15, Try.ntmps15
    go_wp2_with (first | go_big_skip | ((with_reducible refine wpl_drew H ?_); clear H; (try clear W); intro W H) | ((with_reducible refine wpl_drewN H ?_); clear H; (try clear W); intro W H) | ((with_reducible apply wpl_load H); (case hs => exact sc _ rfl); (case hw => rfl); (case hx => rfl); (case hm => (repeat (first | with_reducible exact mH | with_reducible assumption | with_reducible apply mT))); (case hv => rfl)) | ((with_reducible apply wpl_loadA H); (case hs => exact ag _ _ rfl); (case hw => rfl); (case hx => rfl); (case hm => (repeat (first | with_reducible exact mH | with_reducible assumption | with_reducible apply mT))); (case hv => rfl); (case hl => rfl); (try simp only [List.drop_zero, List.drop_succ_cons, List.take_succ_cons, List.take_zero, List.take_nil])) | ((with_reducible apply len_k H); (case hm => exact Pull.here); clear H; (try clear W); intro W H))
    exact HK.out _ H
  · by_cases c2 : M < 1
    · clear hNM
      go_enter Try.func15, Try.ntmps15
      go_wp2_with (first | go_big_skip | ((with_reducible refine wpl_drew H ?_); clear H; (try clear W); intro W H) | ((with_reducible refine wpl_drewN H ?_); clear H; (try clear W); intro W H) | ((with_reducible apply wpl_load H); (case hs => exact sc _ rfl); (case hw => rfl); (case hx => rfl); (case hm => (repeat (first | with_reducible exact mH | with_reducible assumption | with_reducible apply mT))); (case hv => rfl)) | ((with_reducible apply wpl_loadA H); (case hs => exact ag _ _ rfl); (case hw => rfl); (case hx => rfl); (case hm => (repeat (first | with_reducible exact mH | with_reducible assumption | with_reducible apply mT))); (case hv => rfl); (case hl => rfl); (try simp only [List.drop_zero, List.drop_succ_cons, List.take_succ_cons, List.take_zero, List.take_nil])) | ((with_reducible apply len_k H); (case hm => exact Pull.here); clear H; (try clear W); intro W H))
      exact HK.out _ H
    · by_cases c3 : (d.su.length : Int) < N
      · clear hNM
        go_enter Try.func15, Try.ntmps15
        go_wp2_with (first | go_big_skip | ((with_reducible refine wpl_drew H ?_); clear H; (try clear W); intro W H) | ((with_reducible refine wpl_drewN H ?_); clear H; (try clear W); intro W H) | ((with_reducible apply wpl_load H); (case hs => exact sc _ rfl); (case hw => rfl); (case hx => rfl); (case hm => (repeat (first | with_reducible exact mH | with_reducible assumption | with_reducible apply mT))); (case hv => rfl)) | ((with_reducible apply wpl_loadA H); (case hs => exact ag _ _ rfl); (case hw => rfl); (case hx => rfl); (case hm => (repeat (first | with_reducible exact mH | with_reducible assumption | with_reducible apply mT))); (case hv => rfl); (case hl => rfl); (try simp only [List.drop_zero, List.drop_succ_cons, List.take_succ_cons, List.take_zero, List.take_nil])) | ((with_reducible apply len_k H); (case hm => exact Pull.here); clear H; (try clear W); intro W H))
        exact HK.out _ H
      · have c4 : (d.su.length : Int) - N < M := by omega
        have e5 := Lib.hid (wrapI (x := (d.su.length : Int) - N) (by omega) (by omega))
        clear hNM
        go_enter Try.func15, Try.ntmps15
        go_wp2_with (first | go_big_skip | ((with_reducible refine wpl_drew H ?_); clear H; (try clear W); intro W H) | ((with_reducible refine wpl_drewN H ?_); clear H; (try clear W); intro W H) | ((with_reducible apply wpl_load H); (case hs => exact sc _ rfl); (case hw => rfl); (case hx => rfl); (case hm => (repeat (first | with_reducible exact mH | with_reducible assumption | with_reducible apply mT))); (case hv => rfl)) | ((with_reducible apply wpl_loadA H); (case hs => exact ag _ _ rfl); (case hw => rfl); (case hx => rfl); (case hm => (repeat (first | with_reducible exact mH | with_reducible assumption | with_reducible apply mT))); (case hv => rfl); (case hl => rfl); (try simp only [List.drop_zero, List.drop_succ_cons, List.take_succ_cons, List.take_zero, List.take_nil])) | ((with_reducible apply len_k H); (case hm => exact Pull.here); clear H; (try clear W); intro W H))
        exact HK.out _ H
theorem sadd_f (fr mn : Nat) (ls : List (List UInt8)) (hf : d.free) (hC : Clean d.no fr mn (sects 0 ls)) (hb6 : ∀ b ∈ ls, b.length ≤ 256) (hm6 : m ≤ 256) (hroom : (sects 0 ls).length + secs m ≤ mn) (hwa : d.wa.length ≤ 500000) (G : Gives L0 fun w => Rd w 1 A m c (bvs b)) (H : Holds W L) (hm : Pull (stE p g v (sdOf fr mn ls)) L L1) (hm2 : Pull (dkE g dv d) L1 L0)
    (k : ∀ d' v' dv' w', Kp d' fr mn (ls ++ [b]) → d'.wa.length = 1 → Outside fr mn d.no d'.no → Holds w' (stE p g v' (sdOf fr mn (ls ++ [b])) :: dkE g dv' d' :: L0) → R (.returned (.int .i64 0)) w') :
    Calls Try.prog 11 #[.pointer (some ⟨p, 0, none⟩), .slice A m c] W R := by
  have H1 := (H.pull hm).perm (hm2.perm.cons _)
  have hbl := (G W H1.tail.tail).blen
  have ho := dk_ok' (H1.all (dkE g dv d) (.tail _ (.head _)))
  obtain ⟨d', e1, e2, e3, e4⟩ := addF (b := b) hf ho.nn.symm hC hb6 (by omega) (by rw [hbl]; exact hroom)
  have hle := hC.le
  have hnn := ho.nn
  refine sadd_yes (s := sdOf fr mn ls) hm6 (by simp only [sdOf]; omega) hwa (by simp only [sdOf]; omega) G H hm hm2 e1 (fun _ v' dv' w' h => ?_) (fun h => absurd rfl h)
  refine k d' v' dv' w' e2 e3 e4 ?_
  have : sdOf fr mn (ls ++ [b]) = ⟨(sdOf fr mn ls).fr, (sdOf fr mn ls).mn, (sdOf fr mn ls).en + secs m, (sdOf fr mn ls).ls ++ [b]⟩ := by
    unfold sdOf
    rw [sects_snoc0, List.length_append, frS_len, hbl]
  rw [this]
  exact h
end
end Go.Proofs.Ytdnioigcgggdbaa
namespace Go.Proofs.Ytdnioigcgggdbaa
open Go.RowKit
section
variable {W : World} {L L' L0 L1 : List Ent} {R : Ending → World → Prop} {p g : Nat} {v : Sv} {s : Sd} {dv : Dv} {d d' : Dd} {e : Int} {A : Option Addr} {m c : Nat} {b : List UInt8} {N M : Int} {ls : List (List UInt8)} {kept : List Bool}
theorem slen_v (n : Int) (H : Holds W L) (hm : Pull (stE p g v s) L L0) (hn : (s.ls.length : Int) = n) (k : ∀ w', Holds w' (stE p g v s :: L0) → R (.returned (.int .i64 n)) w') :
    Calls Try.prog 13 #[.pointer (some ⟨p, 0, none⟩)] W R := by
  subst hn
  exact slen_k H hm k
theorem sleft_v (n : Int) (H : Holds W L) (hm : Pull (stE p g v s) L L0) (hn : (s.mn : Int) - (s.en : Int) = n) (k : ∀ w', Holds w' (stE p g v s :: L0) → R (.returned (.int .i64 n)) w') :
    Calls Try.prog 14 #[.pointer (some ⟨p, 0, none⟩)] W R := by
  subst hn
  exact sleft_st H hm k
theorem sget_i (n q : Nat) (x : List UInt8) (hN : N = (n : Int)) (hq : x.length = q) (H : Holds W L) (hm : Pull (stE p g v s) L L0) (hx : s.ls[n]? = some x) (k : ∀ A w', Holds w' (rowE 5 A q q (bvs x) :: stE p g v s :: L0) → R (.returned (.tuple #[.slice A q q, .int .i64 0])) w') :
    Calls Try.prog 10 #[.pointer (some ⟨p, 0, none⟩), .int .i64 N] W R := by
  subst hN hq
  exact sget_k n x hx H hm k
theorem ssync_c (hz : d.sync = (d', e)) (H : Holds W L) (hm : Pull (stE p g v s) L L1) (hm2 : Pull (dkE g dv d) L1 L0) (k : ∀ v' w', Holds w' (dkE g v' d' :: stE p g v s :: L0) → R (.returned (.int .i64 e)) w') :
    Calls Try.prog 12 #[.pointer (some ⟨p, 0, none⟩)] W R := by
  refine ssync_k H hm hm2 fun v' w' h => ?_
  rw [hz] at h ⊢
  exact k v' w' h
theorem gives_rowX {e : TypeId} {n c : Nat} {xs : List Value} (h : rowE e A n c xs ∈ L) : Gives L fun w => Rd w 1 A n c xs := fun w H => row_rd (H.all _ h)
theorem gives_nilK (L : List Ent) : Gives L fun w => Rd w 1 none 0 0 (([] : List Bool).map Value.bool) := fun w _ => Rd.nil_ _ _
set_option maxRecDepth 100000 in
set_option maxHeartbeats 1000000 in
theorem opened_k (mn : Nat) (ls : List (List UInt8)) (kept : List Bool) (hM : M = (mn : Int)) (h1 : mn ≤ d.su.length) (h2 : 1 ≤ mn) (hwa : d.wa.length ≤ 1000000) (hT : Torn (failK d.su d.wa kept (min d.wa.length kept.length)) 0 mn (sects 0 ls)) (hb : ∀ b ∈ ls, b.length ≤ 256)
    (H : Holds W L) (hm : Pull (dkE g dv d) L L0) (G : Gives L0 fun w => Rd w 1 A m c (kept.map Value.bool))
    (k : ∀ l' p2 g2 v2 dv2 w', Clean l' 0 mn (sects 0 ls) → Holds w' (stE p2 g2 v2 (sdOf 0 mn ls) :: dkE g2 dv2 (dnew l') :: dkE g dv d :: L0) → R (.returned (.pointer (some ⟨p2, 0, none⟩))) w') :
    Calls Try.prog 25 #[.pointer (some ⟨g, 0, none⟩), .int .i64 M, .slice A m c] W R := by
  subst hM
  have H2 := H.pull hm
  clear H hm
  have H := H2
  clear H2
  have HK := Lib.hid k; clear k
  have HT := Lib.hid hT
  have Hb := Lib.hid hb
  have HG := Lib.hid G
  have h1' : 0 + mn ≤ (failK d.su d.wa kept (min d.wa.length kept.length)).length := by rw [failK_len]; omega
  have H1 := Lib.hid h1'
  clear hT hb G h1'
  go_enter Try.func25, Try.ntmps25
  go_wp2_with (first | go_big_skip | ((with_reducible refine wpl_absorb H ?_); clear H; (first  | generalize W.heap.size = q0); (try clear W); intro W H) | ((with_reducible refine wpl_drew H ?_); clear H; (try clear W); intro W H) | ((with_reducible refine wpl_drewN H ?_); clear H; (try clear W); intro W H) | ((with_reducible apply wpl_load H); (case hs => exact sc _ rfl); (case hw => rfl); (case hx => rfl); (case hm => (repeat (first | with_reducible exact mH | with_reducible assumption | with_reducible apply mT))); (case hv => rfl)) | ((with_reducible apply wpl_loadA H); (case hs => exact ag _ _ rfl); (case hw => rfl); (case hx => rfl); (case hm => (repeat (first | with_reducible exact mH | with_reducible assumption | with_reducible apply mT))); (case hv => rfl); (case hl => rfl); (try simp only [List.drop_zero, List.drop_succ_cons, List.take_succ_cons, List.take_zero, List.take_nil])) | ((with_reducible apply wpl_storeO H); (case hs => exact sz_sc _ rfl); (case hw => rfl); (case hx => rfl); (case hy => (first | exact (rfl : _ = Value.int _ _) | exact (rfl : _ = Value.bool _) | exact (rfl : _ = Value.slice _ _ _) | exact (rfl : _ = Value.pointer _) | exact (rfl : _ = Value.string _) | rfl)); (case h1 => rfl); (case hm => (repeat (first | with_reducible exact Upd.here | with_reducible assumption | with_reducible apply Upd.there))); (case hj => first | assumption | omega); clear H; (try clear W); intro W H) | ((with_reducible apply wpl_store1 H); (case hs => exact sz_sc _ rfl); (case hw => rfl); (case hx => rfl); (case hy => (first | exact (rfl : _ = Value.int _ _) | exact (rfl : _ = Value.bool _) | exact (rfl : _ = Value.slice _ _ _) | exact (rfl : _ = Value.pointer _) | exact (rfl : _ = Value.string _) | rfl)); (case hm => (repeat (first | with_reducible exact Upd.here | with_reducible assumption | with_reducible apply Upd.there))); (case h1 => rfl); (case hk => exact Nat.le_of_ble_eq_true rfl); clear H; (try clear W); intro W H; simp only [setL, List.set_cons_zero, List.set_cons_succ] at H) | ((with_reducible apply wpl_store H); (case hw => rfl); (case hx => rfl); (case hy => rfl); (case hm => (repeat (first | with_reducible exact Upd.here | with_reducible assumption | with_reducible apply Upd.there))); (case hs => exact sz_ag _ _ rfl); (case h1 => rfl); (case hk => exact Nat.le_of_ble_eq_true rfl); clear H; (try clear W); intro W H; first | rw [setL_whole rfl] at H | simp only [setL, List.set_cons_zero, List.set_cons_succ] at H) | ((with_reducible apply fail_k (kept := kept)); (case H => exact H); (case hm => (repeat (first | with_reducible exact Pull.here | with_reducible apply Pull.there))); (case hr => exact HG.out); (case hlen => exact hwa); clear H; (try clear W); intro g2 v2 W H) | ((with_reducible apply sopen_f 0 mn ls); (case hN => rfl); (case hM => rfl); (case H => exact H); (case hm => (repeat (first | with_reducible exact Pull.here | with_reducible apply Pull.there))); (case h1 => exact H1.out); (case h2 => exact h2); (case hf => exact free_new _); (case hwa => exact Nat.zero_le _); (case hT => exact HT.out); (case hb => exact Hb.out); clear H; (try clear W); intro l' p2 sv2 dv2 W hC hO H; have HC := Lib.hid hC; clear hC hO))
  exact HK.out l' p2 g2 sv2 dv2 _ HC.out H
theorem wpl_bstrL {P : Program} {ops : Array Oper} {rest : List Oper} {a : Act} {w : World} {Q : Exit → Act → World → Prop} {L : List Ent} {dst : Option Tmp} {x : Operand} {ty : TypeId} {pos : String} {after : Array Edge} {gd : Option (Nat × Bool)} (l : List UInt8) {src dt e : TypeId} (H : Holds w L) (hw : Region.wanted ⟨dst, .convert src dt x, ty, pos, after, gd⟩ (yielded ops a.tmps) = true) {b o n cap : Nat} (hx : a.eval x = .slice (some ⟨b, o, none⟩) n cap)
    (hs : P.underlying src = some (.slice e)) (he : P.underlying e = some (.int .u8)) (hd : P.underlying dt = some .string) (hm : Gives L fun w => Rd w 1 (some ⟨b, o, none⟩) n cap (bvs l))
    (h : wpList P ops Q rest (a.put dst (.string ⟨l.toArray⟩)) w) : wpList P ops Q (⟨dst, .convert src dt x, ty, pos, after, gd⟩ :: rest) a w := wpl_bstr H hw hx hs he hd hm h
theorem room2 : (sects 0 ([] : List (List UInt8))).length + secs 2 ≤ 10 := by decide
theorem left9 : ((sdOf 0 10 [[97, 98]]).mn : Int) - ((sdOf 0 10 [[97, 98]]).en : Int) = 9 := by
  unfold sdOf
  simp only [sects, List.append_nil, frS_len]
  decide
theorem left10 : ((sdOf 0 10 []).mn : Int) - ((sdOf 0 10 []).en : Int) = 10 := by decide
theorem ab_256 : ∀ b ∈ ([[97, 98]] : List (List UInt8)), b.length ≤ 256 := by decide
theorem nil_256 : ∀ b ∈ ([] : List (List UInt8)), b.length ≤ 256 := fun b h => by cases h
theorem bvs_z (n : Nat) : List.replicate n (Value.int .u8 0) = bvs (List.replicate n 0) := by unfold bvs; rw [List.map_replicate]; rfl
set_option maxRecDepth 100000 in
set_option maxHeartbeats 4000000 in
theorem alive_k (H : Holds W L) (k : ∀ w', Holds w' L → R (.returned (.bool true)) w') : Calls Try.prog 16 #[] W R := by
  have HK := Lib.hid k; clear k
  go_enter Try.func16, Try.ntmps16
  go_wp2_with (first | go_big_skip | ((with_reducible refine wpl_absorb H ?_); clear H; (first  | generalize W.heap.size = q0); (try clear W); intro W H) | ((with_reducible refine wpl_drew H ?_); clear H; (try clear W); intro W H) | ((with_reducible refine wpl_drewN H ?_); clear H; (try clear W); intro W H) | ((with_reducible apply wpl_load H); (case hs => exact sc _ rfl); (case hw => rfl); (case hx => rfl); (case hm => (repeat (first | with_reducible exact mH | with_reducible assumption | with_reducible apply mT))); (case hv => rfl)) | ((with_reducible apply wpl_loadA H); (case hs => exact ag _ _ rfl); (case hw => rfl); (case hx => rfl); (case hm => (repeat (first | with_reducible exact mH | with_reducible assumption | with_reducible apply mT))); (case hv => rfl); (case hl => rfl); (try simp only [List.drop_zero, List.drop_succ_cons, List.take_succ_cons, List.take_zero, List.take_nil])) | ((with_reducible apply wpl_storeO H); (case hs => exact sz_sc _ rfl); (case hw => rfl); (case hx => rfl); (case hy => (first | exact (rfl : _ = Value.int _ _) | exact (rfl : _ = Value.bool _) | exact (rfl : _ = Value.slice _ _ _) | exact (rfl : _ = Value.pointer _) | exact (rfl : _ = Value.string _) | rfl)); (case h1 => rfl); (case hm => (repeat (first | with_reducible exact Upd.here | with_reducible assumption | with_reducible apply Upd.there))); (case hj => first | assumption | omega); clear H; (try clear W); intro W H) | ((with_reducible apply wpl_store1 H); (case hs => exact sz_sc _ rfl); (case hw => rfl); (case hx => rfl); (case hy => (first | exact (rfl : _ = Value.int _ _) | exact (rfl : _ = Value.bool _) | exact (rfl : _ = Value.slice _ _ _) | exact (rfl : _ = Value.pointer _) | exact (rfl : _ = Value.string _) | rfl)); (case hm => (repeat (first | with_reducible exact Upd.here | with_reducible assumption | with_reducible apply Upd.there))); (case h1 => rfl); (case hk => exact Nat.le_of_ble_eq_true rfl); clear H; (try clear W); intro W H; simp only [setL, List.set_cons_zero, List.set_cons_succ] at H) | ((with_reducible apply wpl_store H); (case hw => rfl); (case hx => rfl); (case hy => rfl); (case hm => (repeat (first | with_reducible exact Upd.here | with_reducible assumption | with_reducible apply Upd.there))); (case hs => exact sz_ag _ _ rfl); (case h1 => rfl); (case hk => exact Nat.le_of_ble_eq_true rfl); clear H; (try clear W); intro W H; first | rw [setL_whole rfl] at H | simp only [setL, List.set_cons_zero, List.set_cons_succ] at H) | ((with_reducible apply new_n 10); (case hN => rfl); (case h0 => decide); (case h1 => decide); (case H => exact H); clear H; (try clear W); intro g1 dv1 W H) | ((with_reducible apply sopen_cl 0 10 []); (case hN => rfl); (case hM => rfl); (case H => exact H); (case hm => (repeat (first | with_reducible exact Pull.here | with_reducible apply Pull.there))); (case h1 => decide); (case h2 => decide); (case hf => exact free_new _); (case hwa => exact Nat.zero_le _); (case hC => exact clean_new 10 0 10 (by decide)); (case hb => exact nil_256); clear H; (try clear W); intro p1 v1 dv1b W H) | (first | ((with_reducible apply slen_v 0); (case H => exact H); (case hm => (repeat (first | with_reducible exact Pull.here | with_reducible apply Pull.there))); (case hn => rfl); clear H; (try clear W); intro W H) | ((with_reducible apply slen_v 1); (case H => exact H); (case hm => (repeat (first | with_reducible exact Pull.here | with_reducible apply Pull.there))); (case hn => rfl); clear H; (try clear W); intro W H)) | (first | ((with_reducible apply sleft_v 10); (case H => exact H); (case hm => (repeat (first | with_reducible exact Pull.here | with_reducible apply Pull.there))); (case hn => exact left10); clear H; (try clear W); intro W H) | ((with_reducible apply sleft_v 9); (case H => exact H); (case hm => (repeat (first | with_reducible exact Pull.here | with_reducible apply Pull.there))); (case hn => exact left9); clear H; (try clear W); intro W H)) | ((with_reducible apply wpl_convB H); (case hx => rfl); (case hw => rfl); (case hm => (repeat (first | with_reducible exact Pull.here | with_reducible apply Pull.there))); clear H; (try clear W); intro W H) | ((with_reducible apply sadd_f (b := [97, 98]) 0 10 []); (case H => exact H); (case hm => (repeat (first | with_reducible exact Pull.here | with_reducible apply Pull.there))); (case hm2 => (repeat (first | with_reducible exact Pull.here | with_reducible apply Pull.there))); (case hf => exact free_new _); (case hC => exact clean_new 10 0 10 (by decide)); (case hb6 => exact nil_256); (case hm6 => decide); (case hroom => exact room2); (case hwa => exact Nat.zero_le _); (case G => exact gives_blkF (cs := [.int .u8 97, .int .u8 98]) (by (repeat (first | with_reducible exact mH | with_reducible assumption | with_reducible apply mT))) rfl (by decide)); clear H; (try clear W); intro D2 v2 dv2 W hkp hw1 hO H; rw [List.nil_append] at hkp H; have Hkp := Lib.hid hkp; have Hw1 := Lib.hid hw1; have hn10 : D2.no.length = 10 := hO.1.trans (by simp only [dnew, List.length_replicate]); clear hO; have Hsl : Hid (D2.su.length = 10) := Lib.hid (hkp.len.trans hn10); have Hsn := Lib.hid hn10; clear hkp hw1 hn10) | ((with_reducible apply sget_i 0 2 [97, 98]); (case hN => rfl); (case hq => rfl); (case H => exact H); (case hm => (repeat (first | with_reducible exact Pull.here | with_reducible apply Pull.there))); (case hx => rfl); clear H; (try clear W); intro ga W H; obtain ⟨gb, go, hga, -⟩ := (gives_rowX (.head _) W H).at_ (by decide); subst hga) | ((with_reducible apply sget_no 1); (case H => exact H); (case hm => (repeat (first | with_reducible exact Pull.here | with_reducible apply Pull.there))); (case hn => exact .inr (by decide)); clear H; (try clear W); intro W H) | ((with_reducible apply opened_k 10 [] []); (case hM => rfl); (case H => exact H); (case hm => (repeat (first | with_reducible exact Pull.here | with_reducible apply Pull.there))); (case h1 => exact Nat.le_of_eq Hsl.out.symm); (case h2 => decide); (case hwa => (rw [Hw1.out]; decide)); (case hT => exact Hkp.out.failNone (ls := []) Hw1.out); (case hb => exact nil_256); (case G => exact gives_nilK _); clear H; (try clear W); intro l3 p3 g3 v3 dv3 W hC3 H; clear hC3) | ((with_reducible apply opened_k 10 [[97, 98]] [true]); (case hM => rfl); (case H => exact H); (case hm => (repeat (first | with_reducible exact Pull.here | with_reducible apply Pull.there))); (case h1 => exact Nat.le_of_eq Hsl.out.symm); (case h2 => decide); (case hwa => (rw [Hw1.out]; decide)); (case hT => (rw [show ([true] : List Bool).length = 1 from rfl, Hkp.out.failAll Hw1.out]; exact Hkp.out.cl.torn)); (case hb => exact ab_256); (case G => exact gives_blk (cs := [.bool true]) (by (repeat (first | with_reducible exact mH | with_reducible assumption | with_reducible apply mT))) rfl (by decide)); clear H; (try clear W); intro l4 p4 g4 v4 dv4 W hC4 H; clear hC4) | ((with_reducible apply ssync_c); (case hz => exact Hkp.out.sync.1); (case H => exact H); (case hm => (repeat (first | with_reducible exact Pull.here | with_reducible apply Pull.there))); (case hm2 => (repeat (first | with_reducible exact Pull.here | with_reducible apply Pull.there))); clear H; (try clear W); intro dv5 W H) | ((with_reducible apply wpl_make1 H 257 257); (case hw => rfl); (case ht => exact Try.underlying22); (case hinfo => exact inf_5); (case hz1 => rfl); (case hl => rfl); (case hN => rfl); (case hc => rfl); (case hC => rfl); (case hnc => exact Nat.le_refl _); (case hb => decide); (case h63 => decide); (case hmx => (simp only [maxLen]; decide)); clear H; (try clear W); intro v257 W H; rw [bvs_z] at H) | ((with_reducible apply sadd_no); (case H => exact H); (case hm => (repeat (first | with_reducible exact Pull.here | with_reducible apply Pull.there))); (case hm6 => decide); (case hmc => decide); clear H; (try clear W); intro W H) | ((with_reducible apply sopen_arg); (case H => exact H); (case hm => (repeat (first | with_reducible exact Pull.here | with_reducible apply Pull.there))); (case hNM => exact .inr (.inr (.inr (by have := Hsn.out; simp only [dnew]; omega)))); clear H; (try clear W); intro W H) | ((with_reducible apply wpl_bstrL [97, 98] H); (case hw => rfl); (case hx => rfl); (case hs => exact Try.underlying22); (case he => exact Try.underlying5); (case hd => exact Try.underlying9); (case hm => (apply gives_rowX; (repeat (first | with_reducible exact mH | with_reducible assumption | with_reducible apply mT))))))
  exact HK.out _ (Reord.use H (by ((repeat (with_reducible apply Reord.cons; (case p => (repeat (first | with_reducible exact Pull.here | with_reducible apply Pull.there))))); repeat (first | with_reducible exact Reord.rest | with_reducible apply Reord.drop))))
end
end Go.Proofs.Ytdnioigcgggdbaa
namespace Go.Proofs.Ytdnioigcgggdbaa
open Go.RowKit
def smallB (ls : List (List UInt8)) : Bool := decide (ls.length ≤ 30) && ls.all fun b => decide (b.length ≤ 256)
theorem smallB_256 {ls : List (List UInt8)} (h : smallB ls = true) : ls.length ≤ 30 ∧ ∀ b ∈ ls, b.length ≤ 256 := by
  unfold smallB at h
  rw [Bool.and_eq_true] at h
  exact ⟨of_decide_eq_true h.1, fun b hb => of_decide_eq_true (List.all_eq_true.1 h.2 b hb)⟩
section
variable {W : World} {L L' L0 L1 : List Ent} {R : Ending → World → Prop} {p g : Nat} {v : Sv} {s : Sd} {A : Option Addr} {n c : Nat} {hs : List Value} {ls : List (List UInt8)}
theorem same_eq {A1 A2 : Option Addr} {n1 c1 n2 c2 : Nat} (l : List UInt8) (H : Holds W L) (h1 : Gives L fun w => Rd w 1 A1 n1 c1 (bvs l)) (h2 : Gives L fun w => Rd w 1 A2 n2 c2 (bvs l)) (k : ∀ w', Holds w' L → R (.returned (.bool true)) w') :
    Calls Try.prog 46 #[.slice A1 n1 c1, .slice A2 n2 c2] W R :=
  same_k h1 h2 H fun w' h => by rw [decide_eq_true rfl]; exact k w' h
set_option maxRecDepth 100000 in
set_option maxHeartbeats 1000000 in
theorem small_k (h1 : RdL L A n c hs ls) (H : Holds W L) (k : ∀ w', Holds w' L → R (.returned (.bool (smallB ls))) w') :
    Calls Try.prog 17 #[.slice A n c] W R := by
  have HK := Lib.hid k; clear k
  have hl := h1.len
  by_cases hn : n ≤ 30
  · have hni : ¬ (30 : Int) < n := by omega
    go_enter Try.func17, Try.ntmps17
    go_wp2_with (first | go_big_skip | ((with_reducible refine wpl_absorb H ?_); clear H; (first  | generalize W.heap.size = q0); (try clear W); intro W H) | ((with_reducible refine wpl_drew H ?_); clear H; (try clear W); intro W H) | ((with_reducible refine wpl_drewN H ?_); clear H; (try clear W); intro W H) | ((with_reducible apply wpl_load H); (case hs => exact sc _ rfl); (case hw => rfl); (case hx => rfl); (case hm => (repeat (first | with_reducible exact mH | with_reducible assumption | with_reducible apply mT))); (case hv => rfl)) | ((with_reducible apply wpl_loadA H); (case hs => exact ag _ _ rfl); (case hw => rfl); (case hx => rfl); (case hm => (repeat (first | with_reducible exact mH | with_reducible assumption | with_reducible apply mT))); (case hv => rfl); (case hl => rfl); (try simp only [List.drop_zero, List.drop_succ_cons, List.take_succ_cons, List.take_zero, List.take_nil])) | ((with_reducible apply wpl_storeO H); (case hs => exact sz_sc _ rfl); (case hw => rfl); (case hx => rfl); (case hy => (first | exact (rfl : _ = Value.int _ _) | exact (rfl : _ = Value.bool _) | exact (rfl : _ = Value.slice _ _ _) | exact (rfl : _ = Value.pointer _) | exact (rfl : _ = Value.string _) | rfl)); (case h1 => rfl); (case hm => (repeat (first | with_reducible exact Upd.here | with_reducible assumption | with_reducible apply Upd.there))); (case hj => first | assumption | omega); clear H; (try clear W); intro W H) | ((with_reducible apply wpl_store1 H); (case hs => exact sz_sc _ rfl); (case hw => rfl); (case hx => rfl); (case hy => (first | exact (rfl : _ = Value.int _ _) | exact (rfl : _ = Value.bool _) | exact (rfl : _ = Value.slice _ _ _) | exact (rfl : _ = Value.pointer _) | exact (rfl : _ = Value.string _) | rfl)); (case hm => (repeat (first | with_reducible exact Upd.here | with_reducible assumption | with_reducible apply Upd.there))); (case h1 => rfl); (case hk => exact Nat.le_of_ble_eq_true rfl); clear H; (try clear W); intro W H; simp only [setL, List.set_cons_zero, List.set_cons_succ] at H) | ((with_reducible apply wpl_store H); (case hw => rfl); (case hx => rfl); (case hy => rfl); (case hm => (repeat (first | with_reducible exact Upd.here | with_reducible assumption | with_reducible apply Upd.there))); (case hs => exact sz_ag _ _ rfl); (case h1 => rfl); (case hk => exact Nat.le_of_ble_eq_true rfl); clear H; (try clear W); intro W H; first | rw [setL_whole rfl] at H | simp only [setL, List.set_cons_zero, List.set_cons_succ] at H))
    go_loopw [3] (fun iv wr => ∃ j : Nat, j ≤ n ∧ iv = .int .i64 j ∧ ((ls.take j).all fun b => decide (b.length ≤ 256)) = true ∧ Holds wr L) (fun iv _ => n - (intOf iv).toNat)
    case atStart => exact ⟨0, by omega, rfl, by simp, H⟩
    case round =>
      clear H
      obtain ⟨j, hj, rfl, ha, H⟩ := hrel
      rename World => W
      have Ha := Lib.hid ha
      clear ha
      by_cases hlt : j < n
      · have hji : (j : Int) < n := by omega
        obtain ⟨x, hx⟩ : ∃ x, ls[j]? = some x := ⟨_, List.getElem?_eq_getElem (by omega)⟩
        obtain ⟨B, m, cb, hh, gb⟩ := h1.at_ j x hx
        have hxm := (gb W H).blen
        obtain ⟨a1, o1, rfl, -⟩ := (h1.head W H).at_ (by omega)
        have G1 := h1.head
        have Hh := Lib.hid hh
        have Hx := Lib.hid hx
        have Hxm := Lib.hid hxm
        clear hh hx hxm
        by_cases hm : m ≤ 256
        · have hmi : ¬ (256 : Int) < m := by omega
          go_wp2_with (first | go_big_skip | ((with_reducible refine wpl_absorb H ?_); clear H; (first  | generalize W.heap.size = q0); (try clear W); intro W H) | ((with_reducible refine wpl_drew H ?_); clear H; (try clear W); intro W H) | ((with_reducible refine wpl_drewN H ?_); clear H; (try clear W); intro W H) | ((with_reducible apply wpl_load H); (case hs => exact sc _ rfl); (case hw => rfl); (case hx => rfl); (case hm => (repeat (first | with_reducible exact mH | with_reducible assumption | with_reducible apply mT))); (case hv => rfl)) | ((with_reducible apply wpl_loadA H); (case hs => exact ag _ _ rfl); (case hw => rfl); (case hx => rfl); (case hm => (repeat (first | with_reducible exact mH | with_reducible assumption | with_reducible apply mT))); (case hv => rfl); (case hl => rfl); (try simp only [List.drop_zero, List.drop_succ_cons, List.take_succ_cons, List.take_zero, List.take_nil])) | ((with_reducible apply wpl_storeO H); (case hs => exact sz_sc _ rfl); (case hw => rfl); (case hx => rfl); (case hy => (first | exact (rfl : _ = Value.int _ _) | exact (rfl : _ = Value.bool _) | exact (rfl : _ = Value.slice _ _ _) | exact (rfl : _ = Value.pointer _) | exact (rfl : _ = Value.string _) | rfl)); (case h1 => rfl); (case hm => (repeat (first | with_reducible exact Upd.here | with_reducible assumption | with_reducible apply Upd.there))); (case hj => first | assumption | omega); clear H; (try clear W); intro W H) | ((with_reducible apply wpl_store1 H); (case hs => exact sz_sc _ rfl); (case hw => rfl); (case hx => rfl); (case hy => (first | exact (rfl : _ = Value.int _ _) | exact (rfl : _ = Value.bool _) | exact (rfl : _ = Value.slice _ _ _) | exact (rfl : _ = Value.pointer _) | exact (rfl : _ = Value.string _) | rfl)); (case hm => (repeat (first | with_reducible exact Upd.here | with_reducible assumption | with_reducible apply Upd.there))); (case h1 => rfl); (case hk => exact Nat.le_of_ble_eq_true rfl); clear H; (try clear W); intro W H; simp only [setL, List.set_cons_zero, List.set_cons_succ] at H) | ((with_reducible apply wpl_store H); (case hw => rfl); (case hx => rfl); (case hy => rfl); (case hm => (repeat (first | with_reducible exact Upd.here | with_reducible assumption | with_reducible apply Upd.there))); (case hs => exact sz_ag _ _ rfl); (case h1 => rfl); (case hk => exact Nat.le_of_ble_eq_true rfl); clear H; (try clear W); intro W H; first | rw [setL_whole rfl] at H | simp only [setL, List.set_cons_zero, List.set_cons_succ] at H) | ((with_reducible apply wpl_loadVs (o := o1) (j := j) (v := .slice B m cb) H); (case hs => exact sc _ rfl); (case hw => rfl); (case hx => rfl); (case hm => exact G1); (case hj => omega); (case hv => exact Hh.out)))
          refine ⟨⟨j + 1, by omega, congrArg (Value.int .i64) (by omega), ?_, H⟩, by simp only [intOf]; omega⟩
          rw [List.take_add_one, Hx.out, List.all_append, Ha.out]
          simp [Hxm.out, hm]
        · have hmi : (256 : Int) < m := by omega
          have hsm : smallB ls = false := by
            unfold smallB
            rw [Bool.and_eq_false_iff]
            refine .inr ?_
            rw [List.all_eq_false]
            exact ⟨x, List.mem_of_getElem? Hx.out, by simp [Hxm.out]; omega⟩
          have Hsm := Lib.hid hsm
          clear hsm
          go_wp2_with (first | go_big_skip | ((with_reducible refine wpl_absorb H ?_); clear H; (first  | generalize W.heap.size = q0); (try clear W); intro W H) | ((with_reducible refine wpl_drew H ?_); clear H; (try clear W); intro W H) | ((with_reducible refine wpl_drewN H ?_); clear H; (try clear W); intro W H) | ((with_reducible apply wpl_load H); (case hs => exact sc _ rfl); (case hw => rfl); (case hx => rfl); (case hm => (repeat (first | with_reducible exact mH | with_reducible assumption | with_reducible apply mT))); (case hv => rfl)) | ((with_reducible apply wpl_loadA H); (case hs => exact ag _ _ rfl); (case hw => rfl); (case hx => rfl); (case hm => (repeat (first | with_reducible exact mH | with_reducible assumption | with_reducible apply mT))); (case hv => rfl); (case hl => rfl); (try simp only [List.drop_zero, List.drop_succ_cons, List.take_succ_cons, List.take_zero, List.take_nil])) | ((with_reducible apply wpl_storeO H); (case hs => exact sz_sc _ rfl); (case hw => rfl); (case hx => rfl); (case hy => (first | exact (rfl : _ = Value.int _ _) | exact (rfl : _ = Value.bool _) | exact (rfl : _ = Value.slice _ _ _) | exact (rfl : _ = Value.pointer _) | exact (rfl : _ = Value.string _) | rfl)); (case h1 => rfl); (case hm => (repeat (first | with_reducible exact Upd.here | with_reducible assumption | with_reducible apply Upd.there))); (case hj => first | assumption | omega); clear H; (try clear W); intro W H) | ((with_reducible apply wpl_store1 H); (case hs => exact sz_sc _ rfl); (case hw => rfl); (case hx => rfl); (case hy => (first | exact (rfl : _ = Value.int _ _) | exact (rfl : _ = Value.bool _) | exact (rfl : _ = Value.slice _ _ _) | exact (rfl : _ = Value.pointer _) | exact (rfl : _ = Value.string _) | rfl)); (case hm => (repeat (first | with_reducible exact Upd.here | with_reducible assumption | with_reducible apply Upd.there))); (case h1 => rfl); (case hk => exact Nat.le_of_ble_eq_true rfl); clear H; (try clear W); intro W H; simp only [setL, List.set_cons_zero, List.set_cons_succ] at H) | ((with_reducible apply wpl_store H); (case hw => rfl); (case hx => rfl); (case hy => rfl); (case hm => (repeat (first | with_reducible exact Upd.here | with_reducible assumption | with_reducible apply Upd.there))); (case hs => exact sz_ag _ _ rfl); (case h1 => rfl); (case hk => exact Nat.le_of_ble_eq_true rfl); clear H; (try clear W); intro W H; first | rw [setL_whole rfl] at H | simp only [setL, List.set_cons_zero, List.set_cons_succ] at H) | ((with_reducible apply wpl_loadVs (o := o1) (j := j) (v := .slice B m cb) H); (case hs => exact sc _ rfl); (case hw => rfl); (case hx => rfl); (case hm => exact G1); (case hj => omega); (case hv => exact Hh.out)))
          rw [Hsm.out] at HK
          exact HK.out _ H
      · obtain rfl : j = n := by omega
        have hsm : smallB ls = true := by
          unfold smallB
          have := Ha.out
          rw [List.take_of_length_le (by omega)] at this
          rw [this, decide_eq_true (by omega)]
          rfl
        rw [hsm] at HK
        clear hsm
        go_wp2_with (first | go_big_skip | ((with_reducible refine wpl_absorb H ?_); clear H; (first  | generalize W.heap.size = q0); (try clear W); intro W H) | ((with_reducible refine wpl_drew H ?_); clear H; (try clear W); intro W H) | ((with_reducible refine wpl_drewN H ?_); clear H; (try clear W); intro W H) | ((with_reducible apply wpl_load H); (case hs => exact sc _ rfl); (case hw => rfl); (case hx => rfl); (case hm => (repeat (first | with_reducible exact mH | with_reducible assumption | with_reducible apply mT))); (case hv => rfl)) | ((with_reducible apply wpl_loadA H); (case hs => exact ag _ _ rfl); (case hw => rfl); (case hx => rfl); (case hm => (repeat (first | with_reducible exact mH | with_reducible assumption | with_reducible apply mT))); (case hv => rfl); (case hl => rfl); (try simp only [List.drop_zero, List.drop_succ_cons, List.take_succ_cons, List.take_zero, List.take_nil])) | ((with_reducible apply wpl_storeO H); (case hs => exact sz_sc _ rfl); (case hw => rfl); (case hx => rfl); (case hy => (first | exact (rfl : _ = Value.int _ _) | exact (rfl : _ = Value.bool _) | exact (rfl : _ = Value.slice _ _ _) | exact (rfl : _ = Value.pointer _) | exact (rfl : _ = Value.string _) | rfl)); (case h1 => rfl); (case hm => (repeat (first | with_reducible exact Upd.here | with_reducible assumption | with_reducible apply Upd.there))); (case hj => first | assumption | omega); clear H; (try clear W); intro W H) | ((with_reducible apply wpl_store1 H); (case hs => exact sz_sc _ rfl); (case hw => rfl); (case hx => rfl); (case hy => (first | exact (rfl : _ = Value.int _ _) | exact (rfl : _ = Value.bool _) | exact (rfl : _ = Value.slice _ _ _) | exact (rfl : _ = Value.pointer _) | exact (rfl : _ = Value.string _) | rfl)); (case hm => (repeat (first | with_reducible exact Upd.here | with_reducible assumption | with_reducible apply Upd.there))); (case h1 => rfl); (case hk => exact Nat.le_of_ble_eq_true rfl); clear H; (try clear W); intro W H; simp only [setL, List.set_cons_zero, List.set_cons_succ] at H) | ((with_reducible apply wpl_store H); (case hw => rfl); (case hx => rfl); (case hy => rfl); (case hm => (repeat (first | with_reducible exact Upd.here | with_reducible assumption | with_reducible apply Upd.there))); (case hs => exact sz_ag _ _ rfl); (case h1 => rfl); (case hk => exact Nat.le_of_ble_eq_true rfl); clear H; (try clear W); intro W H; first | rw [setL_whole rfl] at H | simp only [setL, List.set_cons_zero, List.set_cons_succ] at H))
        exact HK.out _ H
  · have hni : (30 : Int) < n := by omega
    have hsm : smallB ls = false := by unfold smallB; rw [decide_eq_false (by omega)]; rfl
    rw [hsm] at HK
    clear hsm
    go_enter Try.func17, Try.ntmps17
    go_wp2_with (first | go_big_skip | ((with_reducible refine wpl_absorb H ?_); clear H; (first  | generalize W.heap.size = q0); (try clear W); intro W H) | ((with_reducible refine wpl_drew H ?_); clear H; (try clear W); intro W H) | ((with_reducible refine wpl_drewN H ?_); clear H; (try clear W); intro W H) | ((with_reducible apply wpl_load H); (case hs => exact sc _ rfl); (case hw => rfl); (case hx => rfl); (case hm => (repeat (first | with_reducible exact mH | with_reducible assumption | with_reducible apply mT))); (case hv => rfl)) | ((with_reducible apply wpl_loadA H); (case hs => exact ag _ _ rfl); (case hw => rfl); (case hx => rfl); (case hm => (repeat (first | with_reducible exact mH | with_reducible assumption | with_reducible apply mT))); (case hv => rfl); (case hl => rfl); (try simp only [List.drop_zero, List.drop_succ_cons, List.take_succ_cons, List.take_zero, List.take_nil])) | ((with_reducible apply wpl_storeO H); (case hs => exact sz_sc _ rfl); (case hw => rfl); (case hx => rfl); (case hy => (first | exact (rfl : _ = Value.int _ _) | exact (rfl : _ = Value.bool _) | exact (rfl : _ = Value.slice _ _ _) | exact (rfl : _ = Value.pointer _) | exact (rfl : _ = Value.string _) | rfl)); (case h1 => rfl); (case hm => (repeat (first | with_reducible exact Upd.here | with_reducible assumption | with_reducible apply Upd.there))); (case hj => first | assumption | omega); clear H; (try clear W); intro W H) | ((with_reducible apply wpl_store1 H); (case hs => exact sz_sc _ rfl); (case hw => rfl); (case hx => rfl); (case hy => (first | exact (rfl : _ = Value.int _ _) | exact (rfl : _ = Value.bool _) | exact (rfl : _ = Value.slice _ _ _) | exact (rfl : _ = Value.pointer _) | exact (rfl : _ = Value.string _) | rfl)); (case hm => (repeat (first | with_reducible exact Upd.here | with_reducible assumption | with_reducible apply Upd.there))); (case h1 => rfl); (case hk => exact Nat.le_of_ble_eq_true rfl); clear H; (try clear W); intro W H; simp only [setL, List.set_cons_zero, List.set_cons_succ] at H) | ((with_reducible apply wpl_store H); (case hw => rfl); (case hx => rfl); (case hy => rfl); (case hm => (repeat (first | with_reducible exact Upd.here | with_reducible assumption | with_reducible apply Upd.there))); (case hs => exact sz_ag _ _ rfl); (case h1 => rfl); (case hk => exact Nat.le_of_ble_eq_true rfl); clear H; (try clear W); intro W H; first | rw [setL_whole rfl] at H | simp only [setL, List.set_cons_zero, List.set_cons_succ] at H))
    exact HK.out _ H
set_option maxRecDepth 100000 in
set_option maxHeartbeats 2000000 in
theorem has_k (hpre : ∀ (i : Nat) (x : List UInt8), s.ls[i]? = some x → ls[i]? = some x) (H : Holds W L) (hm : Pull (stE p g v s) L L0) (h1 : RdL L0 A n c hs ls) (k : ∀ w', Holds w' (stE p g v s :: L0) → R (.returned (.bool true)) w') :
    Calls Try.prog 20 #[.pointer (some ⟨p, 0, none⟩), .slice A n c] W R := by
  have H2 := H.pull hm
  clear H hm
  have H := H2
  clear H2
  have HK := Lib.hid k; clear k
  have hl := h1.len
  have hsl : s.ls.length ≤ n := by
    rcases Nat.eq_zero_or_pos s.ls.length with h | h
    · omega
    · have := hpre (s.ls.length - 1) _ (List.getElem?_eq_getElem (by omega))
      have := (List.getElem?_eq_some_iff.1 this).1
      omega
  have Hpre := Lib.hid hpre
  clear hpre
  have hle := (h1.head W H.tail).le
  have htop := (h1.head W H.tail).top
  unfold maxLen at htop
  have hni : decide (n < s.ls.length) = false := decide_eq_false (by omega)
  go_enter Try.func20, Try.ntmps20
  go_wp2_with (first | go_big_skip | ((with_reducible refine wpl_absorb H ?_); clear H; (first  | generalize W.heap.size = q0); (try clear W); intro W H) | ((with_reducible refine wpl_drew H ?_); clear H; (try clear W); intro W H) | ((with_reducible refine wpl_drewN H ?_); clear H; (try clear W); intro W H) | ((with_reducible apply wpl_load H); (case hs => exact sc _ rfl); (case hw => rfl); (case hx => rfl); (case hm => (repeat (first | with_reducible exact mH | with_reducible assumption | with_reducible apply mT))); (case hv => rfl)) | ((with_reducible apply wpl_loadA H); (case hs => exact ag _ _ rfl); (case hw => rfl); (case hx => rfl); (case hm => (repeat (first | with_reducible exact mH | with_reducible assumption | with_reducible apply mT))); (case hv => rfl); (case hl => rfl); (try simp only [List.drop_zero, List.drop_succ_cons, List.take_succ_cons, List.take_zero, List.take_nil])) | ((with_reducible apply wpl_storeO H); (case hs => exact sz_sc _ rfl); (case hw => rfl); (case hx => rfl); (case hy => (first | exact (rfl : _ = Value.int _ _) | exact (rfl : _ = Value.bool _) | exact (rfl : _ = Value.slice _ _ _) | exact (rfl : _ = Value.pointer _) | exact (rfl : _ = Value.string _) | rfl)); (case h1 => rfl); (case hm => (repeat (first | with_reducible exact Upd.here | with_reducible assumption | with_reducible apply Upd.there))); (case hj => first | assumption | omega); clear H; (try clear W); intro W H) | ((with_reducible apply wpl_store1 H); (case hs => exact sz_sc _ rfl); (case hw => rfl); (case hx => rfl); (case hy => (first | exact (rfl : _ = Value.int _ _) | exact (rfl : _ = Value.bool _) | exact (rfl : _ = Value.slice _ _ _) | exact (rfl : _ = Value.pointer _) | exact (rfl : _ = Value.string _) | rfl)); (case hm => (repeat (first | with_reducible exact Upd.here | with_reducible assumption | with_reducible apply Upd.there))); (case h1 => rfl); (case hk => exact Nat.le_of_ble_eq_true rfl); clear H; (try clear W); intro W H; simp only [setL, List.set_cons_zero, List.set_cons_succ] at H) | ((with_reducible apply wpl_store H); (case hw => rfl); (case hx => rfl); (case hy => rfl); (case hm => (repeat (first | with_reducible exact Upd.here | with_reducible assumption | with_reducible apply Upd.there))); (case hs => exact sz_ag _ _ rfl); (case h1 => rfl); (case hk => exact Nat.le_of_ble_eq_true rfl); clear H; (try clear W); intro W H; first | rw [setL_whole rfl] at H | simp only [setL, List.set_cons_zero, List.set_cons_succ] at H) | ((with_reducible apply slen_k); (case H => exact H); (case hm => (repeat (first | with_reducible exact Pull.here | with_reducible apply Pull.there))); clear H; (try clear W); intro W H))
  go_loopw [5] (fun iv wr => ∃ j : Nat, j ≤ s.ls.length ∧ iv = .int .i64 j ∧ Holds wr (stE p g v s :: L0)) (fun iv _ => s.ls.length - (intOf iv).toNat)
  case atStart => exact ⟨0, by omega, rfl, H⟩
  case round =>
    clear H W
    obtain ⟨j, hj, rfl, H⟩ := hrel
    rename World => W
    by_cases hlt : j < s.ls.length
    · have hji : (j : Int) < s.ls.length := by omega
      have hjn : (j : Int) < n := by omega
      obtain ⟨x, hx⟩ : ∃ x, s.ls[j]? = some x := ⟨_, List.getElem?_eq_getElem (by omega)⟩
      obtain ⟨B, m, cb, hh, gb⟩ := h1.at_ j x (Hpre.out j x hx)
      have hxm := (gb W H.tail).blen
      obtain ⟨a1, o1, rfl, -⟩ := (h1.head W H.tail).at_ (by omega)
      have G1 : ∀ e f, Gives (e :: f :: L0) fun w => Rd w 1 (some ⟨a1, o1, none⟩) n c hs := fun _ _ => .cons (.cons h1.head)
      have GB : ∀ e f, Gives (e :: f :: L0) fun w => Rd w 1 B m cb (bvs x) := fun _ _ => .cons (.cons gb)
      have Hh := Lib.hid hh
      have Hx := Lib.hid hx
      clear hh hx
      go_wp2_with (first | go_big_skip | ((with_reducible refine wpl_absorb H ?_); clear H; (first  | generalize W.heap.size = q0); (try clear W); intro W H) | ((with_reducible refine wpl_drew H ?_); clear H; (try clear W); intro W H) | ((with_reducible refine wpl_drewN H ?_); clear H; (try clear W); intro W H) | ((with_reducible apply wpl_load H); (case hs => exact sc _ rfl); (case hw => rfl); (case hx => rfl); (case hm => (repeat (first | with_reducible exact mH | with_reducible assumption | with_reducible apply mT))); (case hv => rfl)) | ((with_reducible apply wpl_loadA H); (case hs => exact ag _ _ rfl); (case hw => rfl); (case hx => rfl); (case hm => (repeat (first | with_reducible exact mH | with_reducible assumption | with_reducible apply mT))); (case hv => rfl); (case hl => rfl); (try simp only [List.drop_zero, List.drop_succ_cons, List.take_succ_cons, List.take_zero, List.take_nil])) | ((with_reducible apply wpl_storeO H); (case hs => exact sz_sc _ rfl); (case hw => rfl); (case hx => rfl); (case hy => (first | exact (rfl : _ = Value.int _ _) | exact (rfl : _ = Value.bool _) | exact (rfl : _ = Value.slice _ _ _) | exact (rfl : _ = Value.pointer _) | exact (rfl : _ = Value.string _) | rfl)); (case h1 => rfl); (case hm => (repeat (first | with_reducible exact Upd.here | with_reducible assumption | with_reducible apply Upd.there))); (case hj => first | assumption | omega); clear H; (try clear W); intro W H) | ((with_reducible apply wpl_store1 H); (case hs => exact sz_sc _ rfl); (case hw => rfl); (case hx => rfl); (case hy => (first | exact (rfl : _ = Value.int _ _) | exact (rfl : _ = Value.bool _) | exact (rfl : _ = Value.slice _ _ _) | exact (rfl : _ = Value.pointer _) | exact (rfl : _ = Value.string _) | rfl)); (case hm => (repeat (first | with_reducible exact Upd.here | with_reducible assumption | with_reducible apply Upd.there))); (case h1 => rfl); (case hk => exact Nat.le_of_ble_eq_true rfl); clear H; (try clear W); intro W H; simp only [setL, List.set_cons_zero, List.set_cons_succ] at H) | ((with_reducible apply wpl_store H); (case hw => rfl); (case hx => rfl); (case hy => rfl); (case hm => (repeat (first | with_reducible exact Upd.here | with_reducible assumption | with_reducible apply Upd.there))); (case hs => exact sz_ag _ _ rfl); (case h1 => rfl); (case hk => exact Nat.le_of_ble_eq_true rfl); clear H; (try clear W); intro W H; first | rw [setL_whole rfl] at H | simp only [setL, List.set_cons_zero, List.set_cons_succ] at H) | ((with_reducible apply slen_k); (case H => exact H); (case hm => (repeat (first | with_reducible exact Pull.here | with_reducible apply Pull.there))); clear H; (try clear W); intro W H) | ((with_reducible apply sget_i j m x); (case hN => rfl); (case hq => exact hxm); (case H => exact H); (case hm => (repeat (first | with_reducible exact Pull.here | with_reducible apply Pull.there))); (case hx => exact Hx.out); clear H; (try clear W); intro ga W H) | ((with_reducible apply wpl_loadVs (o := o1) (j := j) (v := .slice B m cb) H); (case hs => exact sc _ rfl); (case hw => rfl); (case hx => rfl); (case hm => exact G1 _ _); (case hj => omega); (case hv => exact Hh.out)) | ((with_reducible apply same_eq x); (case H => exact H); (case h1 => exact gives_rowX (.head _)); (case h2 => exact GB _ _); clear H; (try clear W); intro W H))
      go_roundw
      case rel => exact ⟨j + 1, by omega, congrArg (Value.int .i64) (by omega), H.tail⟩
      case measure => simp only [intOf]; omega
    · obtain rfl : j = s.ls.length := by omega
      go_wp2_with (first | go_big_skip | ((with_reducible refine wpl_absorb H ?_); clear H; (first  | generalize W.heap.size = q0); (try clear W); intro W H) | ((with_reducible refine wpl_drew H ?_); clear H; (try clear W); intro W H) | ((with_reducible refine wpl_drewN H ?_); clear H; (try clear W); intro W H) | ((with_reducible apply wpl_load H); (case hs => exact sc _ rfl); (case hw => rfl); (case hx => rfl); (case hm => (repeat (first | with_reducible exact mH | with_reducible assumption | with_reducible apply mT))); (case hv => rfl)) | ((with_reducible apply wpl_loadA H); (case hs => exact ag _ _ rfl); (case hw => rfl); (case hx => rfl); (case hm => (repeat (first | with_reducible exact mH | with_reducible assumption | with_reducible apply mT))); (case hv => rfl); (case hl => rfl); (try simp only [List.drop_zero, List.drop_succ_cons, List.take_succ_cons, List.take_zero, List.take_nil])) | ((with_reducible apply wpl_storeO H); (case hs => exact sz_sc _ rfl); (case hw => rfl); (case hx => rfl); (case hy => (first | exact (rfl : _ = Value.int _ _) | exact (rfl : _ = Value.bool _) | exact (rfl : _ = Value.slice _ _ _) | exact (rfl : _ = Value.pointer _) | exact (rfl : _ = Value.string _) | rfl)); (case h1 => rfl); (case hm => (repeat (first | with_reducible exact Upd.here | with_reducible assumption | with_reducible apply Upd.there))); (case hj => first | assumption | omega); clear H; (try clear W); intro W H) | ((with_reducible apply wpl_store1 H); (case hs => exact sz_sc _ rfl); (case hw => rfl); (case hx => rfl); (case hy => (first | exact (rfl : _ = Value.int _ _) | exact (rfl : _ = Value.bool _) | exact (rfl : _ = Value.slice _ _ _) | exact (rfl : _ = Value.pointer _) | exact (rfl : _ = Value.string _) | rfl)); (case hm => (repeat (first | with_reducible exact Upd.here | with_reducible assumption | with_reducible apply Upd.there))); (case h1 => rfl); (case hk => exact Nat.le_of_ble_eq_true rfl); clear H; (try clear W); intro W H; simp only [setL, List.set_cons_zero, List.set_cons_succ] at H) | ((with_reducible apply wpl_store H); (case hw => rfl); (case hx => rfl); (case hy => rfl); (case hm => (repeat (first | with_reducible exact Upd.here | with_reducible assumption | with_reducible apply Upd.there))); (case hs => exact sz_ag _ _ rfl); (case h1 => rfl); (case hk => exact Nat.le_of_ble_eq_true rfl); clear H; (try clear W); intro W H; first | rw [setL_whole rfl] at H | simp only [setL, List.set_cons_zero, List.set_cons_succ] at H) | ((with_reducible apply slen_k); (case H => exact H); (case hm => (repeat (first | with_reducible exact Pull.here | with_reducible apply Pull.there))); clear H; (try clear W); intro W H))
      exact HK.out _ H
end
end Go.Proofs.Ytdnioigcgggdbaa
namespace Go.Proofs.Ytdnioigcgggdbaa
open Go.RowKit
/-- an argument that is a slice of slices of bytes; B: the entry of all that was there. -/
structure ArgL (B0 : Ent) (A : Option Addr) (n c : Nat) (hs : List Value) (ls : List (List UInt8)) : Prop where
  head : ∀ L, B0 ∈ L → Gives L fun w => Rd w 1 A n c hs
  len : ls.length = n
  at_ : ∀ (j : Nat) (l : List UInt8), ls[j]? = some l → ∃ (B : Option Addr) (m k : Nat), hs[j]? = some (Value.slice B m k) ∧ ∀ L, B0 ∈ L → Gives L fun w => Rd w 1 B m k (bvs l)
theorem argL_base {W0 : World} {A : Option Addr} {n c : Nat} {hs : List Value} {ls : List (List UInt8)} (hr : Rd W0 1 A n c hs) (hl : ls.length = n)
    (hat : ∀ (j : Nat) (l : List UInt8), ls[j]? = some l → ∃ (B : Option Addr) (m k : Nat), hs[j]? = some (Value.slice B m k) ∧ Rd W0 1 B m k (bvs l)) : ArgL (base W0) A n c hs ls :=
  ⟨fun L hm w H => hr.ext (H.all _ hm), hl, fun j l hj => by
    obtain ⟨B, m, k, h1, h2⟩ := hat j l hj
    exact ⟨B, m, k, h1, fun L hm w H => h2.ext (H.all _ hm)⟩⟩
theorem ArgL.rdl {B0 : Ent} {A : Option Addr} {n c : Nat} {hs : List Value} {ls : List (List UInt8)} (h : ArgL B0 A n c hs ls) {L : List Ent} (hm : B0 ∈ L) : RdL L A n c hs ls :=
  ⟨h.head L hm, h.len, fun j l hj => by
    obtain ⟨B, m, k, h1, h2⟩ := h.at_ j l hj
    exact ⟨B, m, k, h1, h2 L hm⟩⟩
theorem wrap64_u8 (N : UInt8) (m : Int) (hm : 0 < m) (k : Nat) (hk : m = (k : Int)) : (wrap64 ((N.toNat : Nat) : Int)).tmod m = ((N.toNat % k : Nat) : Int) := by
  have h := N.toNat_lt
  subst hk
  rw [show wrap64 ((N.toNat : Nat) : Int) = ((N.toNat : Nat) : Int) from by unfold wrap64; omega, Int.tmod_eq_emod_of_nonneg (by omega)]
  omega
theorem take_snoc {ls : List (List UInt8)} {i : Nat} {x : List UInt8} (h : ls[i]? = some x) : ls.take (i + 1) = ls.take i ++ [x] := by
  rw [List.take_add_one, h]; rfl
theorem take_256 {ls : List (List UInt8)} (h : ∀ b ∈ ls, b.length ≤ 256) (i : Nat) : ∀ b ∈ ls.take i, b.length ≤ 256 := fun b hb => h b (List.mem_of_mem_take hb)
theorem take_pre {ls : List (List UInt8)} (k : Nat) : ∀ (i : Nat) (x : List UInt8), (ls.take k)[i]? = some x → ls[i]? = some x := fun i x h => by
  rw [List.getElem?_take] at h
  split at h
  · exact h
  · cases h
theorem room_take {ls : List (List UInt8)} {x : List UInt8} {i m mn : Nat} (h : ∀ b ∈ ls, b.length ≤ 256) (hm : m ≤ 256) (hi : i < 30) (hmn : 150 ≤ mn) : (sects 0 (ls.take i)).length + secs m ≤ mn := by
  have h1 := sects_le (ls.take i) 0 (take_256 h i)
  have h2 := secs_5 hm
  have h3 : (ls.take i).length ≤ i := by rw [List.length_take]; omega
  omega
theorem Outside.su {fr mn : Nat} {l l' : List (List UInt8)} (h : Outside fr mn l l') {n : Nat} (hl : l.length = n) : l'.length = n := h.1.trans hl
/-- rows that were handed in, in another order. -/
def Picks (B0 : Ent) (hs : List Value) (ls : List (List UInt8)) : Prop := hs.length = ls.length ∧ ∀ (j : Nat) (l : List UInt8), ls[j]? = some l → ∃ (B : Option Addr) (m k : Nat), hs[j]? = some (Value.slice B m k) ∧ ∀ L, B0 ∈ L → Gives L fun w => Rd w 1 B m k (bvs l)
theorem Picks.nil (B0 : Ent) : Picks B0 [] [] := ⟨rfl, fun j l h => by simp at h⟩
theorem Picks.snoc {B0 : Ent} {hs : List Value} {ls : List (List UInt8)} (h : Picks B0 hs ls) {x : List UInt8} {B : Option Addr} {m k : Nat} (hx : ∀ L, B0 ∈ L → Gives L fun w => Rd w 1 B m k (bvs x)) : Picks B0 (hs ++ [.slice B m k]) (ls ++ [x]) := by
  refine ⟨by rw [List.length_append, List.length_append, h.1]; rfl, fun j l hj => ?_⟩
  by_cases hlt : j < ls.length
  · rw [List.getElem?_append_left hlt] at hj
    rw [List.getElem?_append_left (by rw [h.1]; exact hlt)]
    exact h.2 j l hj
  · rw [List.getElem?_append_right (by omega)] at hj
    rw [List.getElem?_append_right (by rw [h.1]; omega), h.1]
    obtain ⟨h3, h4⟩ := List.getElem?_eq_some_iff.1 hj
    have : j - ls.length = 0 := by simp at h3; omega
    rw [this] at hj ⊢
    obtain rfl : x = l := by simpa using hj
    exact ⟨B, m, k, rfl, hx⟩
theorem Picks.rdl {B0 : Ent} {hs : List Value} {ls : List (List UInt8)} (h : Picks B0 hs ls) {L : List Ent} {A : Option Addr} {n c : Nat} (hb : B0 ∈ L) (ho : ownE 22 1 (.slice A n c) n hs ∈ L) (hn : ls.length = n) : RdL L A n c hs ls :=
  ⟨gives_own ho rfl, hn, fun j l hj => by
    obtain ⟨B, m, k, h1, h2⟩ := h.2 j l hj
    exact ⟨B, m, k, h1, h2 L hb⟩⟩
theorem ArgL.picks {B0 : Ent} {A : Option Addr} {n c : Nat} {hs : List Value} {ls : List (List UInt8)} (h : ArgL B0 A n c hs ls) (hl : hs.length = ls.length) : Picks B0 hs ls := ⟨hl, h.at_⟩
theorem Picks.take {B0 : Ent} {hs : List Value} {ls : List (List UInt8)} (h : Picks B0 hs ls) (q : Nat) : Picks B0 (hs.take q) (ls.take q) := by
  refine ⟨by rw [List.length_take, List.length_take, h.1], fun j l hj => ?_⟩
  rw [List.getElem?_take] at hj ⊢
  split at hj
  · rename_i hlt
    rw [if_pos hlt]
    exact h.2 j l hj
  · cases hj
section
variable {W : World} {L L' L0 : List Ent} {R : Ending → World → Prop} {g : Nat} {v : Dv} {d : Dd}
theorem turn_n (n m : Nat) (y : UInt8) {N M B : Int} (hN : N = (n : Int)) (hM : M = (m : Int)) (hB : B = ((y.toNat : Nat) : Int)) (hn : n < d.su.length) (hm64 : m < 64) (hb : d.bl = false) (H : Holds W L) (hm : Pull (dkE g v d) L L0) (k : ∀ v' w', Holds w' (dkE g v' (d.turn n m y) :: L0) → R (.returned (.int .i64 0)) w') :
    Calls Try.prog 26 #[.pointer (some ⟨g, 0, none⟩), .int .i64 N, .int .i64 M, .int .u8 B] W R := by subst hN hM hB; exact turn_yes n m y hn hm64 hb H hm k
theorem waits_n (n : Nat) (hz : d.wa.length = n) {N : Int} (hN : N = (n : Int)) (H : Holds W L) (hm : Pull (dkE g v d) L L0) (k : ∀ w', Holds w' (dkE g v d :: L0) → R (.returned (.int .i64 N)) w') : Calls Try.prog 21 #[.pointer (some ⟨g, 0, none⟩)] W R := by
  subst hN hz
  exact waits_k H hm k
end
end Go.Proofs.Ytdnioigcgggdbaa
