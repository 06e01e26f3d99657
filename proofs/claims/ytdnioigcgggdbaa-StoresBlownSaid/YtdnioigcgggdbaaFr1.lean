/-
  Frames and their sums, in plain terms. Nothing of the program stands here.
-/
import Derived.Test.YtdnioigcgggdbaaNum
namespace Go.Proofs.Ytdnioigcgggdbaa

/-! ### the sum -/
def adM : Nat := 65521
def adStep (p : Nat × Nat) (c : UInt8) : Nat × Nat := ((p.1 + c.toNat) % adM, (p.2 + (p.1 + c.toNat)) % adM)
def adRun (p : Nat × Nat) (l : List UInt8) : Nat × Nat := l.foldl adStep p
def ad0 (s : Nat) : Nat × Nat := (s % 65536 % adM, s / 65536 % adM)
def adOut (p : Nat × Nat) : Nat := p.2 * 65536 + p.1
def onF (s : Nat) (b : List UInt8) : Nat := adOut (adRun (ad0 s) b)
theorem adRun_append (p : Nat × Nat) (a b : List UInt8) : adRun p (a ++ b) = adRun (adRun p a) b := List.foldl_append
theorem adRun_lt : ∀ (l : List UInt8) (p : Nat × Nat), p.1 < adM → p.2 < adM → (adRun p l).1 < adM ∧ (adRun p l).2 < adM
  | [], p, h1, h2 => ⟨h1, h2⟩
  | c :: l, p, _, _ => adRun_lt l _ (Nat.mod_lt _ (by decide)) (Nat.mod_lt _ (by decide))
theorem ad0_lt (s : Nat) : (ad0 s).1 < adM ∧ (ad0 s).2 < adM := ⟨Nat.mod_lt _ (by decide), Nat.mod_lt _ (by decide)⟩
theorem ad0_out {p : Nat × Nat} (h1 : p.1 < adM) (h2 : p.2 < adM) : ad0 (adOut p) = p := by
  unfold adM at h1 h2
  unfold ad0 adOut adM
  obtain ⟨x, y⟩ := p
  simp only at h1 h2 ⊢
  congr 1 <;> omega
theorem adOut_lt {p : Nat × Nat} (h1 : p.1 < adM) (h2 : p.2 < adM) : adOut p < 4294967296 := by
  unfold adM at h1 h2
  unfold adOut
  omega
theorem onF_lt (s : Nat) (b : List UInt8) : onF s b < 4294967296 := by
  obtain ⟨h1, h2⟩ := adRun_lt b (ad0 s) (ad0_lt s).1 (ad0_lt s).2
  exact adOut_lt h1 h2
theorem onF_onF (s : Nat) (a b : List UInt8) : onF (onF s a) b = onF s (a ++ b) := by
  obtain ⟨h1, h2⟩ := adRun_lt a (ad0 s) (ad0_lt s).1 (ad0_lt s).2
  unfold onF
  rw [ad0_out h1 h2, adRun_append]
/-- one step, not reduced: what is left of it is the reduced step. -/
theorem adStep_mod (x y : Nat) (c : UInt8) : adStep (x % adM, y % adM) c = ((x + c.toNat) % adM, (y + (x + c.toNat)) % adM) := by
  unfold adStep adM
  simp only
  congr 1 <;> omega

/-! ### the frame -/
def secs (many : Nat) : Nat := (18 + many + 63) / 64
def recM : List UInt8 := [82, 69, 67, 49]
def tl (num n : Nat) : List UInt8 := be 8 num ++ be 2 n
def headF (num : Nat) (b : List UInt8) : List UInt8 := recM ++ (tl num b.length ++ (be 4 (onF (onF 1 (tl num b.length)) b) ++ b))
def putF (num : Nat) (b : List UInt8) : List UInt8 := headF num b ++ List.replicate (secs b.length * 64 - (18 + b.length)) 0
theorem tl_len (num n : Nat) : (tl num n).length = 10 := by unfold tl; rw [List.length_append, be_length, be_length]
theorem headF_len (num : Nat) (b : List UInt8) : (headF num b).length = 18 + b.length := by
  unfold headF recM
  rw [List.length_append, List.length_append, List.length_append, tl_len, be_length]
  simp only [List.length_cons, List.length_nil]
  omega
theorem secs_le (m : Nat) : 18 + m ≤ secs m * 64 := by unfold secs; omega
theorem secs_lt (m : Nat) : secs m * 64 < 18 + m + 64 := by unfold secs; omega
theorem secs_pos (m : Nat) : 64 ≤ secs m * 64 := by unfold secs; omega
theorem putF_len (num : Nat) (b : List UInt8) : (putF num b).length = secs b.length * 64 := by
  unfold putF
  rw [List.length_append, headF_len, List.length_replicate]
  have := secs_le b.length
  omega
def fNum (b : List UInt8) : Nat := ofBe ((b.drop 4).take 8)
def fMany (b : List UInt8) : Nat := ofBe ((b.drop 12).take 2)
def fRec (b : List UInt8) : List UInt8 := (b.drop 18).take (fMany b)
def fTail (b : List UInt8) : List UInt8 := (b.take (secs (fMany b) * 64)).drop (18 + fMany b)
/-- what is wrong with bytes that may be a frame; 0: nothing. -/
def fErr (b : List UInt8) : Nat :=
  if b.length < 64 then 5
  else if ¬ (b.take 4 = recM ∧ fMany b ≤ 256) then 4
  else if b.length < secs (fMany b) * 64 then 5
  else if (fTail b).any (· != 0) then 4
  else if onF (onF 1 ((b.drop 4).take 10)) (fRec b) ≠ ofBe ((b.drop 14).take 4) then 6
  else 0
theorem drop_app {α : Type} {a b : List α} {n : Nat} (h : a.length = n) : (a ++ b).drop n = b := by subst h; exact List.drop_left
theorem take_app {α : Type} {a b : List α} {n : Nat} (h : a.length = n) : (a ++ b).take n = a := by subst h; exact List.take_left
theorem recM_len : recM.length = 4 := rfl
theorem ofBe_be' {k n : Nat} (h : n < 256 ^ k) : ofBe (be k n) = n := by rw [ofBe_be, Nat.mod_eq_of_lt h]
section
variable {num : Nat} {b z : List UInt8}
theorem head_parts (z : List UInt8) : (headF num b ++ z).take 4 = recM ∧ ((headF num b ++ z).drop 4).take 10 = tl num b.length ∧ ((headF num b ++ z).drop 4).take 8 = be 8 num ∧ ((headF num b ++ z).drop 12).take 2 = be 2 b.length ∧
    ((headF num b ++ z).drop 14).take 4 = be 4 (onF (onF 1 (tl num b.length)) b) ∧ ((headF num b ++ z).drop 18).take b.length = b ∧ (headF num b ++ z).drop (18 + b.length) = z := by
  have e4 : (headF num b ++ z).drop 4 = tl num b.length ++ (be 4 (onF (onF 1 (tl num b.length)) b) ++ (b ++ z)) := by
    unfold headF
    rw [List.append_assoc, drop_app recM_len, List.append_assoc, List.append_assoc]
  have e14 : (headF num b ++ z).drop 14 = be 4 (onF (onF 1 (tl num b.length)) b) ++ (b ++ z) := by
    rw [show 14 = 4 + 10 from rfl, ← List.drop_drop, e4, drop_app (tl_len _ _)]
  have e18 : (headF num b ++ z).drop 18 = b ++ z := by
    rw [show 18 = 14 + 4 from rfl, ← List.drop_drop, e14, drop_app (be_length _ _)]
  have e4' : (headF num b ++ z).drop 4 = be 8 num ++ (be 2 b.length ++ (be 4 (onF (onF 1 (tl num b.length)) b) ++ (b ++ z))) := by
    rw [e4]; unfold tl; rw [List.append_assoc]
  have e12 : (headF num b ++ z).drop 12 = be 2 b.length ++ (be 4 (onF (onF 1 (tl num b.length)) b) ++ (b ++ z)) := by
    rw [show 12 = 4 + 8 from rfl, ← List.drop_drop, e4', drop_app (be_length _ _)]
  refine ⟨?_, ?_, ?_, ?_, ?_, ?_, ?_⟩
  · unfold headF; rw [List.append_assoc, take_app recM_len]
  · rw [e4, take_app (tl_len _ _)]
  · rw [e4', take_app (be_length _ _)]
  · rw [e12, take_app (be_length _ _)]
  · rw [e14, take_app (be_length _ _)]
  · rw [e18, take_app rfl]
  · rw [← List.drop_drop, e18, drop_app rfl]
theorem head_many (hb : b.length ≤ 256) : fMany (headF num b ++ z) = b.length := by
  unfold fMany
  rw [(head_parts z).2.2.2.1, ofBe_be' (by omega)]
/-- what is put is got. -/
theorem back (hn : num < 18446744073709551616) (hb : b.length ≤ 256) (z : List UInt8) : fErr (putF num b ++ z) = 0 ∧ fNum (putF num b ++ z) = num ∧ fMany (putF num b ++ z) = b.length ∧ fRec (putF num b ++ z) = b := by
  have hl := putF_len num b
  have hp := secs_pos b.length
  have hs := secs_le b.length
  have e : putF num b ++ z = headF num b ++ (List.replicate (secs b.length * 64 - (18 + b.length)) 0 ++ z) := by unfold putF; rw [List.append_assoc]
  obtain ⟨p1, p2, p3, p4, p5, p6, p7⟩ := head_parts (num := num) (b := b) (List.replicate (secs b.length * 64 - (18 + b.length)) 0 ++ z)
  have hm : fMany (putF num b ++ z) = b.length := by rw [e]; exact head_many hb
  have hr : fRec (putF num b ++ z) = b := by unfold fRec; rw [hm, e]; exact p6
  have ht : fTail (putF num b ++ z) = List.replicate (secs b.length * 64 - (18 + b.length)) 0 := by
    unfold fTail
    rw [hm, take_app hl]
    unfold putF
    rw [drop_app (headF_len _ _)]
  refine ⟨?_, ?_, hm, hr⟩
  · unfold fErr
    rw [if_neg (by rw [List.length_append, hl]; omega), hm, if_neg (by rw [e]; exact fun h => h ⟨p1, hb⟩), if_neg (by rw [List.length_append, hl]; omega), ht, hr, if_neg (by simp)]
    rw [e, p2, p5, ofBe_be' (onF_lt _ _), if_neg (fun h => h rfl)]
  · unfold fNum
    rw [e, p3, ofBe_be' (by omega)]
/-- cut anywhere it is too short. -/
theorem cut_short_f (hb : b.length ≤ 256) {c : Nat} (hc : c < (putF num b).length) : fErr ((putF num b).take c) = 5 := by
  have hl := putF_len num b
  unfold fErr
  by_cases h : c < 64
  · rw [if_pos (by rw [List.length_take]; omega)]
  · have hlen : ((putF num b).take c).length = c := by rw [List.length_take]; omega
    rw [if_neg (by rw [hlen]; exact h)]
    obtain ⟨p1, -, -, p4, -⟩ := head_parts (num := num) (b := b) (List.replicate (secs b.length * 64 - (18 + b.length)) 0)
    have hm : fMany ((putF num b).take c) = b.length := by
      unfold fMany
      rw [List.drop_take, List.take_take, show min 2 (c - 12) = 2 from by omega]
      unfold putF
      rw [p4, ofBe_be' (by omega)]
    have h4 : ((putF num b).take c).take 4 = recM := by
      rw [List.take_take, show min 4 c = 4 from by omega]
      exact p1
    rw [if_neg (fun hh => hh ⟨h4, by rw [hm]; exact hb⟩), hm, hlen, if_pos (by omega)]
theorem rep_of_any {l : List UInt8} (h : l.any (· != 0) = false) : l = List.replicate l.length 0 := by
  rw [List.eq_replicate_iff]
  refine ⟨rfl, fun x hx => ?_⟩
  have := List.any_eq_false.1 h x hx
  simpa using this
/-- bytes of which a record is got begin with its frame. -/
theorem again {x : List UInt8} (h : fErr x = 0) : fMany x ≤ 256 ∧ (fRec x).length = fMany x ∧ fNum x < 18446744073709551616 ∧ secs (fMany x) * 64 ≤ x.length ∧ putF (fNum x) (fRec x) = x.take (secs (fMany x) * 64) := by
  unfold fErr at h
  split at h
  · cases h
  rename_i h1
  split at h
  · cases h
  rename_i h2
  split at h
  · cases h
  rename_i h3
  split at h
  · cases h
  rename_i h4
  split at h
  · cases h
  rename_i h5
  have h2' := Decidable.not_not.1 h2
  have h5' := Decidable.not_not.1 h5
  have hs := secs_le (fMany x)
  have hr : (fRec x).length = fMany x := by unfold fRec; rw [List.length_take, List.length_drop]; omega
  have l8 : ((x.drop 4).take 8).length = 8 := by rw [List.length_take, List.length_drop]; omega
  have l2 : ((x.drop 12).take 2).length = 2 := by rw [List.length_take, List.length_drop]; omega
  have l4 : ((x.drop 14).take 4).length = 4 := by rw [List.length_take, List.length_drop]; omega
  refine ⟨h2'.2, hr, ?_, by omega, ?_⟩
  · have := ofBe_lt ((x.drop 4).take 8)
    rw [l8] at this
    exact this
  · have b8 := be_ofBe ((x.drop 4).take 8)
    rw [l8] at b8
    have b2 := be_ofBe ((x.drop 12).take 2)
    rw [l2] at b2
    have b4 := be_ofBe ((x.drop 14).take 4)
    rw [l4] at b4
    have etl : tl (fNum x) (fMany x) = (x.drop 4).take 10 := by
      unfold tl fNum fMany
      rw [b8, b2, show 10 = 8 + 2 from rfl, List.take_add, List.drop_drop]
    have ehead : headF (fNum x) (fRec x) = x.take (18 + fMany x) := by
      unfold headF
      rw [hr, etl, h5', b4, ← h2'.1]
      rw [show 18 + fMany x = 4 + (10 + (4 + fMany x)) from by omega, List.take_add, List.take_add, List.take_add, List.drop_drop, List.drop_drop]
      unfold fRec
      rfl
    unfold putF
    rw [ehead, hr]
    have htl : (fTail x).length = secs (fMany x) * 64 - (18 + fMany x) := by unfold fTail; rw [List.length_drop, List.length_take]; omega
    have hz := rep_of_any (by simpa using h4 : (fTail x).any (· != 0) = false)
    rw [htl] at hz
    rw [← hz]
    unfold fTail
    have := List.take_append_drop (18 + fMany x) (x.take (secs (fMany x) * 64))
    rw [List.take_take, show min (18 + fMany x) (secs (fMany x) * 64) = 18 + fMany x from by omega] at this
    exact this
end
end Go.Proofs.Ytdnioigcgggdbaa
