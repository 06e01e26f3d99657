/-
  sums: left and takes.
-/
import Derived.Test.YtkammcmlifmgnaaGreatDoorFr1
import Derived.Test.YtkammcmlifmgnaaGreatDoorRow
import Derived.Test.YtkammcmlifmgnaaGreatDoorSz
set_option linter.unusedVariables false
set_option linter.unusedSimpArgs false
namespace Go.Proofs.YtkammcmlifmgnaaGreatDoor
open Go.RowKit

def bothV (p : Nat × Nat) : Value := .agg #[.int .u64 ((p.1 : Nat) : Int), .int .u64 ((p.2 : Nat) : Int)]
theorem tmodM (x : Nat) : ((x : Nat) : Int).tmod 65521 = ((x % adM : Nat) : Int) := by
  unfold adM
  rw [Int.tmod_eq_emod_of_nonneg (by omega)]
  omega
theorem ret_cell {P : Program} {fn : Func} {R : Ending → World → Prop} {a : Act} {w : World} {L : List Ent} {p n b : Nat} {T T' : TypeId} {cs : List Value} (hf : fn.results = #[.cell p T]) (hT : AggOf P T n) (hd : a.defers = []) (H : Holds w L) (hm : blk b cs T' ∈ L)
    (hp : a.tmps.getD p undef = .pointer (some ⟨b, 0, none⟩)) (hR : R (.returned (.agg cs.toArray)) w) (hl : cs.length = n := by rfl) : bodyPost P fn R .ret a w := by
  obtain ⟨⟨d, hd', hr⟩, hi⟩ := aggB_spec hT
  refine bodyPost_ret (v := .agg cs.toArray) ?_ hd hR
  have hc : w.rangeAt b 0 cs := H.range hm
  have := run_loadVar_mid (P := P) w b 0 T cs d hc hd' hr (by rw [hi, hl])
  have hp' : a.tmps[p]?.getD undef = .pointer (some ⟨b, 0, none⟩) := by simpa using hp
  simp [results, hf, hp', asAddr, this]
section
variable {W : World} {L L' L0 : List Ent} {R : Ending → World → Prop}
set_option maxRecDepth 100000 in
set_option maxHeartbeats 1000000 in
theorem sleft_k (X Y : Nat) (H : Holds W L) (k : ∀ w', Holds w' L → R (.returned (bothV (X % adM, Y % adM))) w') :
    Calls Tryz.prog 55 #[.agg #[.int .u64 ((X : Nat) : Int), .int .u64 ((Y : Nat) : Int)]] W R := by
  have HK := Lib.hid k; clear k
  have hX := tmodM X
  have hY := tmodM Y
  generalize X % adM = X2 at hX HK
  generalize Y % adM = Y2 at hY HK
  go_enter Tryz.func55, Tryz.ntmps55
  go_wp2_with (first | go_big_skip | ((with_reducible refine wpl_absorb H ?_); clear H; (first  | generalize W.heap.size = q0); (try clear W); intro W H) | ((with_reducible refine wpl_drew H ?_); clear H; (try clear W); intro W H) | ((with_reducible refine wpl_drewN H ?_); clear H; (try clear W); intro W H) | ((with_reducible apply wpl_load H); (case hs => exact sc _ rfl); (case hw => rfl); (case hx => rfl); (case hm => (repeat (first | with_reducible exact mH | with_reducible assumption | with_reducible apply mT))); (case hv => rfl)) | ((with_reducible apply wpl_loadA H); (case hs => exact ag _ _ rfl); (case hw => rfl); (case hx => rfl); (case hm => (repeat (first | with_reducible exact mH | with_reducible assumption | with_reducible apply mT))); (case hv => rfl); (case hl => rfl); (try simp only [List.drop_zero, List.drop_succ_cons, List.take_succ_cons, List.take_zero, List.take_nil])) | ((with_reducible apply wpl_loadB H); (case hs => exact sc _ rfl); (case hw => rfl); (case hx => rfl); (case hm => (first | assumption | (apply gives_own; (case h => (repeat (first | with_reducible exact mH | with_reducible assumption | with_reducible apply mT))); (case hn => rfl)) | (apply gives_blk; (case h => (repeat (first | with_reducible exact mH | with_reducible assumption | with_reducible apply mT))); (case hn => rfl); (case hl => omega)) | (repeat (first | assumption | with_reducible apply Gives.cons)))); (case hj => first | assumption | omega)) | ((with_reducible apply wpl_loadB0 H); (case hs => exact sc _ rfl); (case hw => rfl); (case hx => rfl); (case hm => (first | assumption | (apply gives_own; (case h => (repeat (first | with_reducible exact mH | with_reducible assumption | with_reducible apply mT))); (case hn => rfl)) | (apply gives_blk; (case h => (repeat (first | with_reducible exact mH | with_reducible assumption | with_reducible apply mT))); (case hn => rfl); (case hl => omega)) | (repeat (first | assumption | with_reducible apply Gives.cons)))); (case hj => first | assumption | omega)) | ((with_reducible apply wpl_storeO H); (case hs => exact sz_sc _ rfl); (case hw => rfl); (case hx => rfl); (case hy => (first | exact (rfl : _ = Value.int _ _) | exact (rfl : _ = Value.bool _) | exact (rfl : _ = Value.slice _ _ _) | exact (rfl : _ = Value.pointer _) | exact (rfl : _ = Value.string _) | rfl)); (case h1 => rfl); (case hm => (repeat (first | with_reducible exact Upd.here | with_reducible assumption | with_reducible apply Upd.there))); (case hj => first | assumption | omega); clear H; (try clear W); intro W H) | ((with_reducible apply wpl_app H); (case ht => (first | exact Tryz.underlying23 | exact Tryz.underlying31 | exact Tryz.underlying32 | exact Tryz.underlying33 | exact Tryz.underlying34 | exact Tryz.underlying35 | exact Tryz.underlying36 | exact Tryz.underlying37 | exact Tryz.underlying38 | exact Tryz.underlying39 | exact Tryz.underlying57 | exact Tryz.underlying73 | exact Tryz.underlying76 | exact Tryz.underlying88 | exact Tryz.underlying91 | exact Tryz.underlying98 | exact Tryz.underlying104 | exact Tryz.underlying110 | exact Tryz.underlying118 | exact Tryz.underlying124 | exact Tryz.underlying153 | exact Tryz.underlying198)); (case hinfo => (first | exact inf_3 | exact inf_5 | exact inf_9 | exact inf_23 | exact inf_25 | exact inf_86 | exact inf_90 | exact inf_93 | exact inf_96 | exact inf_100 | exact inf_102 | exact inf_106 | exact inf_108 | exact inf_112 | exact inf_116 | exact inf_120 | exact inf_122 | exact inf_126 | exact inf_131 | exact inf_201)); (case hw => rfl); (case hs => rfl); (case hx => rfl); (case hm => (repeat (first | with_reducible exact Pull.here | with_reducible apply Pull.there))); (case hzs => rfl); (case hsz => decide); (case hr => (first | assumption | (apply gives_own; (case h => (repeat (first | with_reducible exact mH | with_reducible assumption | with_reducible apply mT))); (case hn => rfl)) | (apply gives_blk; (case h => (repeat (first | with_reducible exact mH | with_reducible assumption | with_reducible apply mT))); (case hn => rfl); (case hl => omega)) | (repeat (first | assumption | with_reducible apply Gives.cons)))); (case h1 => first | exact bvs_oneCell _ | (intro u hu; obtain rfl := List.mem_singleton.1 hu; rfl)); (case h63 => (simp only [maxLen]; omega)); (case hbytes => omega); clear H; (try clear W); intro A1 n1 c1 W hn H hle1 htop1; obtain rfl := hn.out; clear hn) | ((with_reducible apply wpl_store1 H); (case hs => exact sz_sc _ rfl); (case hw => rfl); (case hx => rfl); (case hy => (first | exact (rfl : _ = Value.int _ _) | exact (rfl : _ = Value.bool _) | exact (rfl : _ = Value.slice _ _ _) | exact (rfl : _ = Value.pointer _) | exact (rfl : _ = Value.string _) | rfl)); (case hm => (repeat (first | with_reducible exact Upd.here | with_reducible assumption | with_reducible apply Upd.there))); (case h1 => rfl); (case hk => exact Nat.le_of_ble_eq_true rfl); clear H; (try clear W); intro W H; simp only [setL, List.set_cons_zero, List.set_cons_succ] at H) | ((with_reducible apply wpl_store H); (case hw => rfl); (case hx => rfl); (case hy => rfl); (case hm => (repeat (first | with_reducible exact Upd.here | with_reducible assumption | with_reducible apply Upd.there))); (case hs => exact sz_ag _ _ rfl); (case h1 => rfl); (case hk => exact Nat.le_of_ble_eq_true rfl); clear H; (try clear W); intro W H; first | rw [setL_whole rfl] at H | simp only [setL, List.set_cons_zero, List.set_cons_succ] at H))
  exact ret_cell rfl (ag _ _ rfl) rfl H (by (repeat (first | with_reducible exact mH | with_reducible assumption | with_reducible apply mT))) rfl (HK.out _ (Reord.use H (by ((repeat (with_reducible apply Reord.cons; (case p => (repeat (first | with_reducible exact Pull.here | with_reducible apply Pull.there))))); repeat (first | with_reducible exact Reord.rest | with_reducible apply Reord.drop)))))
end
end Go.Proofs.YtkammcmlifmgnaaGreatDoor
