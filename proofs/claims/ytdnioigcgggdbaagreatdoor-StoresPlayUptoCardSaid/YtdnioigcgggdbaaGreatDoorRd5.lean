/-
  The reference's disk: Turn.
-/
import Derived.Test.YtdnioigcgggdbaaGreatDoorMaf
set_option linter.unusedVariables false
set_option linter.unusedSimpArgs false
namespace Go.Proofs.YtdnioigcgggdbaaGreatDoor
open Go.RowKit

section
variable {W : World} {L L' L0 : List Ent} {R : Ending → World → Prop} {g : Nat} {v : Rv} {d : Dd}
set_option maxRecDepth 100000 in
set_option maxHeartbeats 1000000 in
theorem rturn_no (N M B : Int) (hn : N < 0 ∨ (d.su.length : Int) ≤ N ∨ M < 0 ∨ 64 ≤ M) (H : Holds W L) (hm : Pull (rdE g v d) L L0) (k : ∀ w', Holds w' (rdE g v d :: L0) → R (.returned (.int .i64 1)) w') :
    Calls Tryz.prog 17 #[.pointer (some ⟨g, 0, none⟩), .int .i64 N, .int .i64 M, .int .u8 B] W R := by
  have H2 := rd_open (H.pull hm); clear H; obtain ⟨ho, H⟩ := H2
  clear hm
  have HK := Lib.hid k; clear k
  have Ho := Lib.hid ho
  clear ho
  by_cases c1 : N < 0
  · clear hn
    go_enter Tryz.func17, Tryz.ntmps17
    go_wp2_with (first | go_big_skip )
    exact HK.out _ (rd_shut _ _ H Ho.out)
  · have d1 : decide (N < 0) = false := by simp; omega
    by_cases c2 : (d.su.length : Int) ≤ N
    · clear hn
      go_enter Tryz.func17, Tryz.ntmps17
      go_wp2_with (first | ((with_reducible apply wpl_load H); (case hs => exact sc _ rfl); (case hw | hx => rfl); (case hm => (with_reducible repeat first | exact mH)); (case hv => rfl)) )
      exact HK.out _ (rd_shut _ _ H Ho.out)
    · have d2 : decide ((d.su.length : Int) ≤ N) = false := by simp; omega
      by_cases c3 : M < 0
      · clear hn
        go_enter Tryz.func17, Tryz.ntmps17
        go_wp2_with (first | ((with_reducible apply wpl_load H); (case hs => exact sc _ rfl); (case hw | hx => rfl); (case hm => (with_reducible repeat first | exact mH)); (case hv => rfl)) )
        exact HK.out _ (rd_shut _ _ H Ho.out)
      · have d3 : decide (M < 0) = false := by simp; omega
        have c4 : 64 ≤ M := by omega
        clear hn
        go_enter Tryz.func17, Tryz.ntmps17
        go_wp2_with (first | ((with_reducible apply wpl_load H); (case hs => exact sc _ rfl); (case hw | hx => rfl); (case hm => (with_reducible repeat first | exact mH)); (case hv => rfl)) )
        exact HK.out _ (rd_shut _ _ H Ho.out)
set_option maxRecDepth 100000 in
set_option maxHeartbeats 1000000 in
theorem rturn_blown (N M : Nat) (B : Int) (hn : N < d.su.length) (hm64 : M < 64) (hb : d.bl = true) (H : Holds W L) (hm : Pull (rdE g v d) L L0) (k : ∀ w', Holds w' (rdE g v d :: L0) → R (.returned (.int .i64 9)) w') :
    Calls Tryz.prog 17 #[.pointer (some ⟨g, 0, none⟩), .int .i64 N, .int .i64 M, .int .u8 B] W R := by
  have H2 := rd_open (H.pull hm); clear H; obtain ⟨ho, H⟩ := H2
  clear hm
  have HK := Lib.hid k; clear k
  have Ho := Lib.hid ho
  clear ho
  obtain ⟨su, no, wa, lf, bl⟩ := d
  simp only at hn hb H
  subst hb
  have d1 : decide ((N : Int) < 0) = false := by simp
  have d2 : decide ((su.length : Int) ≤ N) = false := by simp; omega
  have d3 : decide ((M : Int) < 0) = false := by simp
  have d4 : decide ((64 : Int) ≤ M) = false := by simp; omega
  go_enter Tryz.func17, Tryz.ntmps17
  go_wp2_with (first | ((with_reducible apply wpl_load H); (case hs => exact sc _ rfl); (case hw | hx => rfl); (case hm => (with_reducible repeat first | exact mH)); (case hv => rfl)) )
  exact HK.out _ (rd_shut v ⟨su, no, wa, lf, true⟩ H Ho.out)
set_option maxRecDepth 100000 in
set_option maxHeartbeats 2000000 in
theorem rturn_yes (N M : Nat) (y : UInt8) (hn : N < d.su.length) (hm64 : M < 64) (hb : d.bl = false) (H : Holds W L) (hm : Pull (rdE g v d) L L0) (k : ∀ v' w', Holds w' (rdE g v' (d.turn N M y) :: L0) → R (.returned (.int .i64 0)) w') :
    Calls Tryz.prog 17 #[.pointer (some ⟨g, 0, none⟩), .int .i64 N, .int .i64 M, .int .u8 ((y.toNat : Nat) : Int)] W R := by
  have H2 := rd_open (H.pull hm); clear H; obtain ⟨ho, H⟩ := H2
  clear hm
  have HK := Lib.hid k; clear k
  have hnl : d.no.length = d.su.length := by rw [ho.nn, lay_len]
  obtain ⟨s, hs⟩ : ∃ s, d.no[N]? = some s := ⟨_, List.getElem?_eq_getElem (show N < d.no.length by omega)⟩
  unfold Dd.turn at HK
  rw [hs] at HK
  simp only [Option.getD_some] at HK
  have h64 : ∀ s ∈ d.no, s.length = 64 := by rw [ho.nn]; exact lay_64 ho.sl ho.wl
  have hs64 := h64 s (List.mem_of_getElem? hs)
  obtain ⟨su, no, wa, lf, bl⟩ := d
  simp only at hn hb H hs hnl h64
  subst hb
  have Ho := Lib.hid ho
  have Hs := Lib.hid hs
  have Hnl := Lib.hid hnl
  have H64 := Lib.hid h64
  have d1 : decide ((N : Int) < 0) = false := by simp
  have d2 : decide ((su.length : Int) ≤ N) = false := by simp; omega
  have d3 : decide ((M : Int) < 0) = false := by simp
  have d4 : decide ((64 : Int) ≤ M) = false := by simp; omega
  have hNi : (N : Int) < no.length := by omega
  have hN2 : N < no.length := by omega
  have Hs64 := Lib.hid hs64
  have hmx : 0 + s.length ≤ maxLen := by simp only [maxLen]; omega
  have hb0 : (0 + s.length) * 1 ≤ 140737488355328 := by omega
  have hM2 : (M : Int) < s.length := by omega
  have hM3 : M < s.length := by omega
  clear ho hs hnl h64 hs64
  go_enter Tryz.func17, Tryz.ntmps17
  go_wp2_with (first | ((with_reducible apply wpl_load H); (case hs => exact sc _ rfl); (case hw | hx => rfl); (case hm => (with_reducible repeat first | exact mH | apply mT)); (case hv => rfl)) | ((with_reducible apply wpl_loadB0 H); (case hs => exact sc _ rfl); (case hw | hx => rfl); (case hm => (first | (apply gives_own; (case h => (with_reducible repeat first | exact mH | apply mT)); (case hn => rfl)) | (with_reducible repeat first | apply Gives.cons))); (case hj => first | assumption )) | ((with_reducible apply wpl_storeO H); (case hs => exact sz_sc _ rfl); (case hw | hx => rfl); (case hy => (first | exact (rfl : _ = Value.int _ _) | exact (rfl : _ = Value.slice _ _ _) )); (case h1 => rfl); (case hm => (with_reducible repeat first | exact Upd.here | apply Upd.there)); (case hj => first | assumption ); clear H; (try clear W); intro W H) | ((with_reducible apply rsync0_k (d := ⟨su, no, wa, lf, false⟩) (v := v)); (case H => exact rd_shut v _ H Ho.out); (case hm => exact Pull.here); clear H; (try clear W); intro v2 W H; have HO2 := rd_open H; clear H; obtain ⟨ho2, H⟩ := HO2; obtain ⟨gs, cs, q, aw, cw, qw⟩ := v2; simp only [Dd.settle] at H ho2; have hql := rws_len (q := q) (ls := no) H (by (with_reducible repeat first | exact mH | apply mT)); obtain ⟨x, hx⟩ : ∃ x, q[N]? = some x := ⟨_, List.getElem?_eq_getElem (by have := (List.getElem?_eq_some_iff.1 Hs.out).1; omega)⟩; have Hz := Lib.hid (zip_at (f := rh) hx Hs.out); have Hx := Lib.hid hx; have Hql := Lib.hid hql; have Ho2 := Lib.hid ho2; clear hx hql ho2; have HG : Hid (∀ L, rwsE q no ∈ L → Gives L fun w => Rd w 1 x.1 s.length x.2 (bvs s)) := Lib.hid fun L h1 => gives_rws h1 Hx.out Hs.out; replace H := H.add_nil 5 1) | ((with_reducible apply wpl_loadVs0 (j := N) H); (case hs => exact sc _ rfl); (case hw | hx => rfl); (case hm => (first | (apply gives_own; (case h => (with_reducible repeat first | exact mH | apply mT)); (case hn => rfl)) )); (case hj => omega); (case hv => exact Hz.out)) | ((with_reducible apply wpl_app H); (case hw => rfl); (case ht => exact Tryz.underlying50); (case hinfo => exact inf_5); (case hs | hx => rfl); (case hm => exact Pull.here); (case hzs => rfl); (case hsz => decide); (case hr => (apply HG.out; all_goals (with_reducible repeat first | exact mH | apply mT))); (case h1 => exact bvs_oneCell _); (case h63 => assumption); (case hbytes => assumption); clear H; (try clear W); intro A1 n1 c1 W hn1 H hle1 htop1; rw [List.nil_append] at H; obtain rfl : n1 = s.length := (hn1.out.trans (Nat.zero_add _)); clear hn1; obtain ⟨b1, rfl⟩ := own_some (H.all _ List.mem_cons_self) (by omega)))
  have hM : M < s.length := hM3
  have e1 : (bvs s).set M (Value.int .u8 (bits .xor .u8 ((s[M].toNat : Nat) : Int) ((y.toNat : Nat) : Int))) = bvs (s.set M (s[M]?.getD 0 ^^^ y)) := by
    rw [xor_byte, List.getElem?_eq_getElem hM, Option.getD_some]
    unfold bvs
    rw [List.map_set]
    rfl
  rw [e1] at H
  generalize hs' : s.set M (s[M]?.getD 0 ^^^ y) = s' at *
  have hl' : s'.length = s.length := by rw [← hs', List.length_set]
  rw [← hl'] at H
  have hql := Hql.out
  have e2 : (List.zipWith rh q no).set N (Value.slice (some ⟨b1, 0, none⟩) s'.length c1) = List.zipWith rh (q.set N (some ⟨b1, 0, none⟩, c1)) (no.set N s') := by
    rw [zipS rh hql]; rfl
  rw [e2] at H
  have H2 : Holds W (rwE (some ⟨b1, 0, none⟩, c1) s' :: rwsE q no :: blk g [.slice (some ⟨gs, 0, none⟩) no.length cs, .slice aw ([] : List (Nat × List UInt8)).length cw, .int .i64 (clf lf), .bool false] 74 :: ownE 50 1 (.slice (some ⟨gs, 0, none⟩) no.length cs) no.length (List.zipWith rh (q.set N (some ⟨b1, 0, none⟩, c1)) (no.set N s')) :: ownE 103 2 (.slice aw ([] : List (Nat × List UInt8)).length cw) ([] : List (Nat × List UInt8)).length (wtc qw []) :: rwsE qw (([] : List (Nat × List UInt8)).map (·.2)) :: L0) := Reord.use H (by unfold rwE rh; ((repeat (with_reducible apply Reord.cons; (case p => (with_reducible repeat first | exact Pull.here | apply Pull.there)))); repeat (with_reducible exact Reord.rest)))
  have H3 := rws_swap H2 hN2
  have ho2 := Ho2.out
  have hs64 := Hs64.out
  refine HK.out ⟨gs, cs, q.set N (some ⟨b1, 0, none⟩, c1), aw, cw, qw⟩ _ (rd_shut _ _ ?_ ⟨?_, ?_, rfl, ?_, ?_, ho2.l1, ho2.l2⟩)
  · simp only [Dd.settle, List.length_set]
    exact Reord.use H3 (by ((repeat (with_reducible apply Reord.cons; (case p => (with_reducible repeat first | exact Pull.here | apply Pull.there)))); repeat (with_reducible exact Reord.rest)))
  · simp only [Dd.settle, List.length_set]; exact ho2.n0
  · simp only [Dd.settle, List.length_set]; exact ho2.n1
  · intro t ht
    rcases List.mem_or_eq_of_mem_set ht with h | rfl
    · exact ho2.sl t h
    · omega
  · intro x hx; cases hx
end
end Go.Proofs.YtdnioigcgggdbaaGreatDoor
