/-
  The references: almonerref06.Get.
-/
import Derived.Test.YtdnioigcgggdbaaGreatDoorMao
import Derived.Test.YtdnioigcgggdbaaGreatDoorFrM
set_option linter.unusedVariables false
set_option linter.unusedSimpArgs false
namespace Go.Proofs.YtdnioigcgggdbaaGreatDoor
open Go.RowKit

section
variable {P : Program} {ops : Array Oper} {rest : List Oper} {a : Act} {w : World} {Q : Exit → Act → World → Prop} {L : List Ent} {dst : Option Tmp} {x : Operand} {ty : TypeId} {pos : String} {after : Array Edge} {gd : Option (Nat × Bool)}
theorem wpl_bstrM (l : List UInt8) {src dt e : TypeId} (H : Holds w L) (hw : Region.wanted ⟨dst, .convert src dt x, ty, pos, after, gd⟩ (yielded ops a.tmps) = true) {b o n cap : Nat} (hx : a.eval x = .slice (some ⟨b, o, none⟩) n cap)
    (hs : P.underlying src = some (.slice e)) (he : P.underlying e = some (.int .u8)) (hd : P.underlying dt = some .string) (hm : Gives L fun w => Rd w 1 (some ⟨b, o, none⟩) n cap (bvs l))
    (h : wpList P ops Q rest (a.put dst (.string ⟨l.toArray⟩)) w) : wpList P ops Q (⟨dst, .convert src dt x, ty, pos, after, gd⟩ :: rest) a w := wpl_bstr H hw hx hs he hd hm h
end
theorem any_of_at {l : List UInt8} {y s j : Nat} (h : 18 + y + j < s * 64) (hl : s * 64 ≤ l.length) (hv : l[18 + y + j]?.getD 0 ≠ 0) : ((l.take (s * 64)).drop (18 + y)).any (· != 0) = true := by
  rw [List.any_eq_true]
  refine ⟨l[18 + y + j]?.getD 0, ?_, by simpa using hv⟩
  rw [List.mem_iff_getElem?]
  refine ⟨j, ?_⟩
  rw [List.getElem?_drop, List.getElem?_take, if_pos (by omega), List.getElem?_eq_getElem (by omega)]
  rfl
theorem no_any {l : List UInt8} {y s : Nat} (h : ∀ t, 18 + y + t < s * 64 → l[18 + y + t]?.getD 0 = 0) : ((l.take (s * 64)).drop (18 + y)).any (· != 0) = false := by
  rw [List.any_eq_false]
  intro x hx
  obtain ⟨j, hj⟩ := List.mem_iff_getElem?.1 hx
  rw [List.getElem?_drop, List.getElem?_take] at hj
  split at hj
  · have := h j (by omega)
    rw [hj] at this
    simpa using this
  · cases hj
section
variable {W : World} {L L' L0 : List Ent} {R : Ending → World → Prop} {A : Option Addr} {b o m c : Nat} {l : List UInt8}
set_option maxRecDepth 100000 in
set_option maxHeartbeats 4000000 in
theorem rfget_k (hm : m ≤ 1000000) (G : Gives L fun w => Rd w 1 A m c (bvs l)) (H : Holds W L)
    (kn : ∀ (e : Nat) w', fErr l = e → e ≠ 0 → Holds w' L → R (.returned (.tuple #[.int .u64 0, .slice none 0 0, .int .i64 0, .int .i64 (e : Nat)])) w')
    (ky : fErr l = 0 → ∀ A' n' c' w', n' = fMany l → Holds w' (ownE 5 1 (.slice A' n' c') n' (bvs (fRec l)) :: L) → R (.returned (.tuple #[.int .u64 (fNum l : Nat), .slice A' n' c', .int .i64 (secs (fMany l) : Nat), .int .i64 0])) w') :
    Calls Tryz.prog 46 #[.slice A m c] W R := by
  have KN := Lib.hid kn
  have KY := Lib.hid ky
  clear kn ky
  have hlen := Lib.hid (G W H).blen
  have hle := (G W H).le
  have HG := Lib.hid G
  by_cases h64 : m < 64
  · clear G
    go_enter Tryz.func46, Tryz.ntmps46
    go_wp2_with (first | go_big_skip )
    refine bodyPost_ret (v := .tuple #[.int .u64 _, .slice _ _ _, .int .i64 _, .int .i64 _]) ?_ rfl (KN.out 5 _ (by unfold fErr; rw [if_pos (by rw [hlen.out]; omega)]) (by decide) H)
    simp [results, Tryz.results46, go_sem]
  · obtain ⟨b, o, rfl, -⟩ := (G W H).at_ (by omega)
    have g4 : Gives L fun w => Rd w 1 (some ⟨b, o + 4, none⟩) (m - 4) (c - 4) (bvs (l.drop 4)) := G.imp fun w h => h.tailB 4 (by omega)
    have g12 : Gives L fun w => Rd w 1 (some ⟨b, o + 12, none⟩) (m - 12) (c - 12) (bvs (l.drop 12)) := G.imp fun w h => h.tailB 12 (by omega)
    have g14 : Gives L fun w => Rd w 1 (some ⟨b, o + 14, none⟩) (m - 14) (c - 14) (bvs (l.drop 14)) := G.imp fun w h => h.tailB 14 (by omega)
    have g0 : Gives L fun w => Rd w 1 (some ⟨b, o, none⟩) 4 c (bvs (l.take 4)) := G.imp fun w h => by
      have := h.midB 0 4 (by omega) (by omega) (by omega)
      simpa using this
    have hlt := fMany_lt l
    obtain ⟨y, hy⟩ : ∃ y, y = fMany l := ⟨_, rfl⟩
    have HY' := Lib.hid hy
    have ey : ofBe ((l.drop 12).take 2) = y := hy.symm
    have EY := Lib.hid ey
    rw [← hy] at hlt
    have hm64 : ¬ ((m : Int) < 64) := by omega
    clear G hy ey
    have G4 := Lib.hid g4
    have G12 := Lib.hid g12
    have G14 := Lib.hid g14
    clear g4 g12 g14
    by_cases h4 : l.take 4 = recM
    · have H4 := Lib.hid h4
      rw [h4] at g0
      clear h4
      by_cases h256 : y ≤ 256
      · obtain ⟨s, hs⟩ : ∃ s, s = secs y := ⟨_, rfl⟩
        have hs1 := secs_le y
        have hs2 := secs_lt y
        rw [← hs] at hs1 hs2
        have HS := Lib.hid hs
        clear hs
        have EW := Lib.hid (wrapI (x := (y : Int)) (by omega) (by omega))
        by_cases h3 : s * 64 ≤ m
        · have g18 : Gives L fun w => Rd w 1 (some ⟨b, o + 18, none⟩) (18 + y - 18) (c - 18) (bvs (fRec l)) := HG.out.imp fun w h => by
            have := h.midB 18 (18 + y) (by omega) (by omega) (by omega)
            unfold fRec
            rw [← HY'.out]
            rw [show (l.drop 18).take (18 + y - 18) = (l.drop 18).take y by rw [show 18 + y - 18 = y by omega]] at this
            exact this
          have g410 : Gives L fun w => Rd w 1 (some ⟨b, o + 4, none⟩) 10 (c - 4) (bvs ((l.drop 4).take 10)) := HG.out.imp fun w h => h.midB 4 14 (by omega) (by omega) (by omega)
          obtain ⟨z, hz⟩ : ∃ z, z = fRec l := ⟨_, rfl⟩
          rw [← hz] at g18
          have HZ := Lib.hid hz
          clear hz
          go_enter Tryz.func46, Tryz.ntmps46
          go_wp2_with (first | ((first | ((with_reducible apply rGet_k (b := 8) (l := l.drop 4)); (case H => exact H); (case G => exact G4.out)) | ((with_reducible apply rGet_k (b := 2) (l := l.drop 12)); (case H => exact H); (case G => exact G12.out)) | ((with_reducible apply rGet_k (b := 4) (l := l.drop 14)); (case H => exact H); (case G => exact G14.out))); (case hK => rfl); (case hb => decide); (case hbm | hm => omega); clear H; (try clear W); intro W H; (try rw [EY.out])) | ((with_reducible apply wpl_bstrM recM H); (case hw | hx => rfl); (case hs => exact Tryz.underlying50); (case he => exact Tryz.underlying5); (case hd => exact Tryz.underlying9); (case hm => exact g0)) | ((with_reducible apply rsecs_k (n := y)); (case H => exact H); (case hN => first | rfl ); (case hn => omega); clear H; (try clear W); intro W H; rw [← HS.out]) | ((with_reducible apply wpl_app (H.add_nil 5 1)); (case ht => exact Tryz.underlying50); (case hinfo => exact inf_5); (case hw | hs | hx => rfl); (case hm => exact Pull.here); (case hzs => rfl); (case hsz => decide); (case hr => exact g18.cons); (case h1 => exact bvs_oneCell _); (case h63 => (simp only [maxLen]; omega)); (case hbytes => omega); clear H; (try clear W); intro A7 n1 c7 W hn H hle1 htop1; obtain rfl : n1 = y := (by have := hn.out; omega); clear hn; rw [List.nil_append] at H))
          go_loopw [14] (fun i wr => ∃ j : Nat, 18 + n1 + j ≤ s * 64 ∧ i = .int .i64 ((18 + n1 + j : Nat) : Int) ∧ Hid (∀ t, t < j → l[18 + n1 + t]?.getD 0 = 0) ∧ Holds wr (ownE 5 1 (.slice A7 n1 c7) n1 (bvs z) :: L)) (fun i _ => s * 64 - (intOf i).toNat)
          case atStart => exact ⟨0, by omega, congrArg (Value.int .i64) (by omega), Lib.hid (fun t ht => absurd ht (by omega)), H⟩
          case round =>
            clear H
            obtain ⟨j, hj, rfl, hz, H⟩ := hrel
            rename World => W
            have HE : ∀ e : Nat, Hid ((if (fTail l).any (· != 0) then 4 else if onF (onF 1 ((l.drop 4).take 10)) (fRec l) ≠ ofBe ((l.drop 14).take 4) then 6 else 0) = e) → fErr l = e := fun e h => by
              unfold fErr
              rw [if_neg (by rw [hlen.out]; omega), if_neg (fun h => h ⟨H4.out, by rw [← HY'.out]; exact h256⟩), ← HY'.out, ← HS.out, if_neg (by rw [hlen.out]; omega)]
              exact h.out
            have HT : Hid (fTail l = (l.take (s * 64)).drop (18 + n1)) := Lib.hid (by unfold fTail; rw [← HY'.out, ← HS.out])
            by_cases hlt2 : 18 + n1 + j < s * 64
            · have hki : ((18 + n1 + j : Nat) : Int) < (s : Int) * 64 := by omega
              have G := HG.out
              cases hv : ((((l[18 + n1 + j]?.getD 0).toNat : Nat) : Int) != 0) with
              | true =>
                have HV := Lib.hid (any_of_at hlt2 (by rw [hlen.out]; exact h3) (fun h => by rw [h] at hv; exact absurd hv (by decide)))
                go_wp2_with (first | ((with_reducible apply wpl_loadB H); (case hs => exact sc _ rfl); (case hw | hx => rfl); (case hm => (first | (repeat (first | assumption | with_reducible apply Gives.cons)))); (case hj => first | omega)) )
                refine bodyPost_ret (v := .tuple #[.int .u64 _, .slice _ _ _, .int .i64 _, .int .i64 _]) ?_ rfl (KN.out 4 _ (HE 4 (Lib.hid (by rw [HT.out, HV.out]; rfl))) (by decide) H.tail)
                simp [results, Tryz.results46, go_sem]
              | false =>
                have HV := Lib.hid (show l[18 + n1 + j]?.getD 0 = 0 from UInt8.toNat_inj.1 (by have := bne_eq_false_iff_eq.1 hv; show (l[18 + n1 + j]?.getD 0).toNat = 0; omega))
                go_wp2_with (first | ((with_reducible apply wpl_loadB H); (case hs => exact sc _ rfl); (case hw | hx => rfl); (case hm => (first | (repeat (first | assumption | with_reducible apply Gives.cons)))); (case hj => first | omega)) )
                refine ⟨⟨j + 1, by omega, congrArg (Value.int .i64) (by omega), Lib.hid fun t ht => ?_, H⟩, by simp only [intOf]; omega⟩
                by_cases htj : t < j
                · exact hz.out t htj
                · obtain rfl : t = j := by omega
                  exact HV.out
            · have hki : ¬ ((18 + n1 + j : Nat) : Int) < (s : Int) * 64 := by omega
              have HF := Lib.hid (no_any (s := s) (y := n1) (l := l) (fun t ht => hz.out t (by omega)))
              have Honf := Lib.hid (onF_onF 1 ((l.drop 4).take 10) z)
              obtain ⟨q, hq⟩ : ∃ q, q = onF 1 ((l.drop 4).take 10 ++ z) := ⟨_, rfl⟩
              have hqlt : q < 4294967296 := by rw [hq]; exact onF_lt _ _
              obtain ⟨v, hv⟩ : ∃ v, v = ofBe ((l.drop 14).take 4) := ⟨_, rfl⟩
              rw [← hq] at Honf
              rw [← hv]
              have HQ := Lib.hid hq.symm
              have HVV := Lib.hid hv
              clear hq hv hlt2
              have EQ := Lib.hid (wrap_u64_small (x := (q : Int)) (by omega) (by omega))
              by_cases h5 : q = v
              · subst h5
                have HFR : Hid (fErr l = 0) := Lib.hid (HE 0 (Lib.hid (by rw [HT.out, HF.out, ← HZ.out, Honf.out, if_neg (by simp), if_neg (fun h => h HVV.out)])))
                go_wp2_with (first | ((with_reducible apply wpl_app H); (case ht => (first | exact Tryz.underlying50 )); (case hinfo => (first | exact inf_5 )); (case hw | hs | hx => rfl); (case hm => (with_reducible repeat first | exact Pull.here | apply Pull.there)); (case hzs => rfl); (case hsz => decide); (case hr => (first | (apply gives_own; (case h => (with_reducible repeat first | exact mH | apply mT)); (case hn => rfl)) )); (case h1 => first | exact bvs_oneCell _ ); (case h63 => (simp only [maxLen]; omega)); (case hbytes => omega); clear H; (try clear W); intro A1 n1 c1 W hn H hle1 htop1; obtain rfl := hn.out; clear hn) | ((with_reducible apply wpl_app (H.add_nil 5 1)); (case ht => exact Tryz.underlying50); (case hinfo => exact inf_5); (case hw | hs | hx => rfl); (case hm => exact Pull.here); (case hzs => rfl); (case hsz => decide); (case hr => exact g410.cons.cons); (case h1 => exact bvs_oneCell _); (case h63 => (simp only [maxLen]; omega)); (case hbytes => omega); clear H; (try clear W); intro A2 n2 c2 W hn H hle2 htop2; obtain rfl : n2 = 10 := (by have := hn.out; omega); clear hn; rw [List.nil_append] at H) | ((rw [← bvs_append] at H); (with_reducible apply rOf_k (l := (l.drop 4).take 10 ++ z)); (case H => exact H); (case hm => omega); (case G => (apply gives_own; (case h => (with_reducible repeat first | exact mH)); (case hn => rfl))); clear H; (try clear W); intro W H; rw [HQ.out]))
                refine bodyPost_ret (v := .tuple #[.int .u64 _, .slice _ _ _, .int .i64 _, .int .i64 _]) ?_ rfl (KY.out HFR.out A7 n1 c7 _ HY'.out (by rw [← HZ.out]; exact Reord.use H (by ((repeat (with_reducible apply Reord.cons; (case p => (with_reducible repeat first | exact Pull.here | apply Pull.there)))); repeat (first | with_reducible exact Reord.rest | with_reducible apply Reord.drop)))))
                rw [← HY'.out, ← HS.out]
                simp [results, Tryz.results46, go_sem]
                rfl
              · have h5i : ¬ (q : Int) = (v : Int) := by omega
                have HFR : Hid (fErr l = 6) := Lib.hid (HE 6 (Lib.hid (by rw [HT.out, HF.out, ← HZ.out, Honf.out, if_neg (by simp), if_pos (fun h => h5 (h.trans HVV.out.symm))])))
                go_wp2_with (first | ((with_reducible apply wpl_app H); (case ht => (first | exact Tryz.underlying50 )); (case hinfo => (first | exact inf_5 )); (case hw | hs | hx => rfl); (case hm => (with_reducible repeat first | exact Pull.here | apply Pull.there)); (case hzs => rfl); (case hsz => decide); (case hr => (first | (apply gives_own; (case h => (with_reducible repeat first | exact mH | apply mT)); (case hn => rfl)) )); (case h1 => first | exact bvs_oneCell _ ); (case h63 => (simp only [maxLen]; omega)); (case hbytes => omega); clear H; (try clear W); intro A1 n1 c1 W hn H hle1 htop1; obtain rfl := hn.out; clear hn) | ((with_reducible apply wpl_app (H.add_nil 5 1)); (case ht => exact Tryz.underlying50); (case hinfo => exact inf_5); (case hw | hs | hx => rfl); (case hm => exact Pull.here); (case hzs => rfl); (case hsz => decide); (case hr => exact g410.cons.cons); (case h1 => exact bvs_oneCell _); (case h63 => (simp only [maxLen]; omega)); (case hbytes => omega); clear H; (try clear W); intro A2 n2 c2 W hn H hle2 htop2; obtain rfl : n2 = 10 := (by have := hn.out; omega); clear hn; rw [List.nil_append] at H) | ((rw [← bvs_append] at H); (with_reducible apply rOf_k (l := (l.drop 4).take 10 ++ z)); (case H => exact H); (case hm => omega); (case G => (apply gives_own; (case h => (with_reducible repeat first | exact mH)); (case hn => rfl))); clear H; (try clear W); intro W H; rw [HQ.out]))
                refine bodyPost_ret (v := .tuple #[.int .u64 _, .slice _ _ _, .int .i64 _, .int .i64 _]) ?_ rfl (KN.out 6 _ HFR.out (by decide) (Reord.use H (by ((repeat (with_reducible apply Reord.cons; (case p => (with_reducible repeat first | exact Pull.here)))); repeat (first | with_reducible exact Reord.rest | with_reducible apply Reord.drop)))))
                simp [results, Tryz.results46, go_sem]
        · go_enter Tryz.func46, Tryz.ntmps46
          go_wp2_with (first | ((first | ((with_reducible apply rGet_k (b := 8) (l := l.drop 4)); (case H => exact H); (case G => exact G4.out)) | ((with_reducible apply rGet_k (b := 2) (l := l.drop 12)); (case H => exact H); (case G => exact G12.out)) | ((with_reducible apply rGet_k (b := 4) (l := l.drop 14)); (case H => exact H); (case G => exact G14.out))); (case hK => rfl); (case hb => decide); (case hbm | hm => omega); clear H; (try clear W); intro W H; (try rw [EY.out])) | ((with_reducible apply wpl_bstrM recM H); (case hw | hx => rfl); (case hs => exact Tryz.underlying50); (case he => exact Tryz.underlying5); (case hd => exact Tryz.underlying9); (case hm => exact g0)) | ((with_reducible apply rsecs_k (n := y)); (case H => exact H); (case hN => first | rfl ); (case hn => omega); clear H; (try clear W); intro W H; rw [← HS.out]))
          refine bodyPost_ret (v := .tuple #[.int .u64 _, .slice _ _ _, .int .i64 _, .int .i64 _]) ?_ rfl (KN.out 5 _ (by unfold fErr; rw [if_neg (by rw [hlen.out]; omega), if_neg (fun h => h ⟨H4.out, by rw [← HY'.out]; exact h256⟩), ← HY'.out, ← HS.out, if_pos (by rw [hlen.out]; omega)]) (by decide) H)
          simp [results, Tryz.results46, go_sem]
      · go_enter Tryz.func46, Tryz.ntmps46
        go_wp2_with (first | ((first | ((with_reducible apply rGet_k (b := 8) (l := l.drop 4)); (case H => exact H); (case G => exact G4.out)) | ((with_reducible apply rGet_k (b := 2) (l := l.drop 12)); (case H => exact H); (case G => exact G12.out)) | ((with_reducible apply rGet_k (b := 4) (l := l.drop 14)); (case H => exact H); (case G => exact G14.out))); (case hK => rfl); (case hb => decide); (case hbm | hm => omega); clear H; (try clear W); intro W H; (try rw [EY.out])) | ((with_reducible apply wpl_bstrM recM H); (case hw | hx => rfl); (case hs => exact Tryz.underlying50); (case he => exact Tryz.underlying5); (case hd => exact Tryz.underlying9); (case hm => exact g0)))
        refine bodyPost_ret (v := .tuple #[.int .u64 _, .slice _ _ _, .int .i64 _, .int .i64 _]) ?_ rfl (KN.out 4 _ (by unfold fErr; rw [if_neg (by rw [hlen.out]; omega), if_pos (fun h => h256 (HY'.out ▸ h.2))]) (by decide) H)
        simp [results, Tryz.results46, go_sem]
    · have H4 := Lib.hid h4
      clear h4
      generalize hz : l.take 4 = z at g0
      have Hz := Lib.hid hz
      clear hz
      go_enter Tryz.func46, Tryz.ntmps46
      go_wp2_with (first | ((first | ((with_reducible apply rGet_k (b := 8) (l := l.drop 4)); (case H => exact H); (case G => exact G4.out)) | ((with_reducible apply rGet_k (b := 2) (l := l.drop 12)); (case H => exact H); (case G => exact G12.out)) | ((with_reducible apply rGet_k (b := 4) (l := l.drop 14)); (case H => exact H); (case G => exact G14.out))); (case hK => rfl); (case hb => decide); (case hbm | hm => omega); clear H; (try clear W); intro W H; (try rw [EY.out])) | ((with_reducible apply wpl_bstrM z H); (case hw | hx => rfl); (case hs => exact Tryz.underlying50); (case he => exact Tryz.underlying5); (case hd => exact Tryz.underlying9); (case hm => exact g0)))
      all_goals first
        | exact absurd ‹z = [82, 69, 67, 49]› (fun h => H4.out (Hz.out.trans h))
        | (refine bodyPost_ret (v := .tuple #[.int .u64 _, .slice _ _ _, .int .i64 _, .int .i64 _]) ?_ rfl (KN.out 4 _ (by unfold fErr; rw [if_neg (by rw [hlen.out]; omega), if_pos (fun h => H4.out h.1)]) (by decide) H)
           simp [results, Tryz.results46, go_sem])
end
end Go.Proofs.YtdnioigcgggdbaaGreatDoor
