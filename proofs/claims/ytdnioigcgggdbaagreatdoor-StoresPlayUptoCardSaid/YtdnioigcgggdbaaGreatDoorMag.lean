/-
  disks: one contract for each call, whatever its arguments: the program's disk and the reference's.
  Rows of bytes that may be clipped, each the call's own, behind their headers: one entry for all of them.
  Numbers as bytes, the highest first: plain facts. Nothing of the program stands here.
  Frames and their sums, in plain terms. Nothing of the program stands here.
  sums: left and takes.
  sums: takes.
-/
import Derived.Test.YtdnioigcgggdbaaGreatDoorMac
import Derived.Test.YtdnioigcgggdbaaGreatDoorDkBl
import Derived.Test.YtdnioigcgggdbaaGreatDoorMae
import Derived.Test.YtdnioigcgggdbaaGreatDoorRd6
import Derived.Test.YtdnioigcgggdbaaGreatDoorMab
set_option linter.unusedVariables false
set_option linter.unusedSimpArgs false
namespace Go.Proofs.YtdnioigcgggdbaaGreatDoor
open Go.RowKit

def Dd.readB (d : Dd) (N : Int) : List UInt8 := if 0 ≤ N ∧ N < d.su.length then d.no[N.toNat]?.getD [] else []
def Dd.readE (d : Dd) (N : Int) : Int := if 0 ≤ N ∧ N < d.su.length then 0 else 1
def Dd.turnE (d : Dd) (N M : Int) (y : UInt8) : Dd × Int :=
  if N < 0 ∨ (d.su.length : Int) ≤ N ∨ M < 0 ∨ 64 ≤ M then (d, 1) else if d.bl then (d, 9) else (d.turn N.toNat M.toNat y, 0)
def Dd.failD (d : Dd) (kept : List Bool) : Dd := dnew (failK d.su d.wa kept (min d.wa.length kept.length))
theorem turnE_wa (d : Dd) (N M : Int) (y : UInt8) : (d.turnE N M y).1.wa.length ≤ d.wa.length := by
  unfold Dd.turnE
  split
  · simp
  · split
    · simp
    · simp [Dd.turn, Dd.settle]
section
variable {W : World} {L L' L0 : List Ent} {R : Ending → World → Prop} {g : Nat} {v : Dv} {r : Rv} {d d' : Dd} {e : Int}
theorem dkE_ok (H : Holds W L) (h : dkE g v d ∈ L) : DOk v d := (H.all _ h).1
theorem dread_c {z : List UInt8} (N : Int) (hz : d.readB N = z ∧ d.readE N = e) (H : Holds W L) (hm : Pull (dkE g v d) L L0) (k : ∀ A c w', Holds w' (rowE 5 A z.length c (bvs z) :: dkE g v d :: L0) → R (.returned (.tuple #[.slice A z.length c, .int .i64 e])) w') :
    Calls Tryz.prog 60 #[.pointer (some ⟨g, 0, none⟩), .int .i64 N] W R := by
  obtain ⟨rfl, rfl⟩ := hz
  unfold Dd.readB Dd.readE at *
  by_cases h : 0 ≤ N ∧ N < d.su.length
  · rw [if_pos h, if_pos h] at k
    obtain ⟨n, rfl⟩ : ∃ n : Nat, N = n := ⟨N.toNat, by omega⟩
    have ho := dkE_ok H hm.mem
    obtain ⟨s, hs⟩ : ∃ s, d.no[n]? = some s := ⟨_, List.getElem?_eq_getElem (by rw [ho.nn]; omega)⟩
    have h64 := ho.nl s (List.mem_of_getElem? hs)
    rw [Int.toNat_natCast, hs, Option.getD_some, h64] at k
    exact read_k n s hs H hm fun b w' h => k _ _ w' h.to_row
  · rw [if_neg h, if_neg h] at k
    exact read_no N (by omega) H hm fun w' h => k none 0 w' (h.add_nil 5 1).to_row
theorem rread_c {z : List UInt8} (N : Int) (hz : d.readB N = z ∧ d.readE N = e) (h64 : ∀ s ∈ d.no, s.length = 64) (hnl : d.no.length = d.su.length) (H : Holds W L) (hm : Pull (rdE g r d) L L0) (k : ∀ A c w', Holds w' (rowE 5 A z.length c (bvs z) :: rdE g r d :: L0) → R (.returned (.tuple #[.slice A z.length c, .int .i64 e])) w') :
    Calls Tryz.prog 61 #[.pointer (some ⟨g, 0, none⟩), .int .i64 N] W R := by
  obtain ⟨rfl, rfl⟩ := hz
  unfold Dd.readB Dd.readE at *
  by_cases h : 0 ≤ N ∧ N < d.su.length
  · rw [if_pos h, if_pos h] at k
    obtain ⟨n, rfl⟩ : ∃ n : Nat, N = n := ⟨N.toNat, by omega⟩
    obtain ⟨s, hs⟩ : ∃ s, d.no[n]? = some s := ⟨_, List.getElem?_eq_getElem (by rw [hnl]; omega)⟩
    have h64 := h64 s (List.mem_of_getElem? hs)
    rw [Int.toNat_natCast, hs, Option.getD_some, h64] at k
    exact rread_k n s hs H hm fun A c w' h => k _ _ w' h.to_row
  · rw [if_neg h, if_neg h] at k
    exact rread_no N (by omega) H hm fun w' h => k none 0 w' (h.add_nil 5 1).to_row
theorem rwrite_c {A : Option Addr} {m c : Nat} (N : Int) (b : List UInt8) (hz : d.write N b = (d', e)) (hlen : d.wa.length ≤ 1000000) (H : Holds W L) (hm : Pull (rdE g r d) L L0) (hr : Gives L0 fun w => Rd w 1 A m c (bvs b))
    (k : ∀ v' w', Holds w' (rdE g v' d' :: L0) → R (.returned (.int .i64 e)) w') :
    Calls Tryz.prog 19 #[.pointer (some ⟨g, 0, none⟩), .int .i64 N, .slice A m c] W R := by
  have hR := hr W (H.pull hm).tail
  have hbl := hR.blen
  have hc := hR.top
  have hmc := hR.le
  unfold maxLen at hc
  clear hR
  unfold Dd.write at hz
  by_cases h : N < 0 ∨ (d.su.length : Int) ≤ N ∨ 64 < b.length
  · rw [if_pos h] at hz
    cases hz
    exact rwrite_no N (by omega) (by omega) hmc H hm fun w' h => k _ w' h
  · rw [if_neg h] at hz
    obtain ⟨n, rfl⟩ : ∃ n : Nat, N = n := ⟨N.toNat, by omega⟩
    cases hs : spentB d.lf d.bl with
    | true =>
      rw [hs, if_pos rfl] at hz
      cases hz
      exact rwrite_spent n (by omega) (by omega) hs (by omega) hmc H hm fun w' h => k _ w' h
    | false =>
      rw [hs, if_neg (by decide), Int.toNat_natCast] at hz
      cases hz
      exact rwrite_yes n (by omega) (by omega) hs hlen H hm hr fun v' w' h => k v' w' h
theorem dturn_c (N M : Int) (y : UInt8) (hz : d.turnE N M y = (d', e)) (H : Holds W L) (hm : Pull (dkE g v d) L L0) (k : ∀ v' w', Holds w' (dkE g v' d' :: L0) → R (.returned (.int .i64 e)) w') :
    Calls Tryz.prog 16 #[.pointer (some ⟨g, 0, none⟩), .int .i64 N, .int .i64 M, .int .u8 ((y.toNat : Nat) : Int)] W R := by
  unfold Dd.turnE at hz
  by_cases h : N < 0 ∨ (d.su.length : Int) ≤ N ∨ M < 0 ∨ 64 ≤ M
  · rw [if_pos h] at hz
    cases hz
    exact turn_no N M _ h H hm fun w' h => k _ w' h
  · rw [if_neg h] at hz
    obtain ⟨n, rfl⟩ : ∃ n : Nat, N = n := ⟨N.toNat, by omega⟩
    obtain ⟨m, rfl⟩ : ∃ n : Nat, M = n := ⟨M.toNat, by omega⟩
    cases hs : d.bl with
    | true =>
      rw [hs, if_pos rfl] at hz
      cases hz
      exact turn_blown n m _ (by omega) (by omega) hs H hm fun w' h => k _ w' h
    | false =>
      rw [hs, if_neg (by decide), Int.toNat_natCast, Int.toNat_natCast] at hz
      cases hz
      exact turn_yes n m y (by omega) (by omega) hs H hm fun v' w' h => k v' w' h
theorem rturn_c (N M : Int) (y : UInt8) (hz : d.turnE N M y = (d', e)) (H : Holds W L) (hm : Pull (rdE g r d) L L0) (k : ∀ v' w', Holds w' (rdE g v' d' :: L0) → R (.returned (.int .i64 e)) w') :
    Calls Tryz.prog 17 #[.pointer (some ⟨g, 0, none⟩), .int .i64 N, .int .i64 M, .int .u8 ((y.toNat : Nat) : Int)] W R := by
  unfold Dd.turnE at hz
  by_cases h : N < 0 ∨ (d.su.length : Int) ≤ N ∨ M < 0 ∨ 64 ≤ M
  · rw [if_pos h] at hz
    cases hz
    exact rturn_no N M _ h H hm fun w' h => k _ w' h
  · rw [if_neg h] at hz
    obtain ⟨n, rfl⟩ : ∃ n : Nat, N = n := ⟨N.toNat, by omega⟩
    obtain ⟨m, rfl⟩ : ∃ n : Nat, M = n := ⟨M.toNat, by omega⟩
    cases hs : d.bl with
    | true =>
      rw [hs, if_pos rfl] at hz
      cases hz
      exact rturn_blown n m _ (by omega) (by omega) hs H hm fun w' h => k _ w' h
    | false =>
      rw [hs, if_neg (by decide), Int.toNat_natCast, Int.toNat_natCast] at hz
      cases hz
      exact rturn_yes n m y (by omega) (by omega) hs H hm fun v' w' h => k v' w' h
theorem rsync_c (hz : d.sync = (d', e)) (H : Holds W L) (hm : Pull (rdE g r d) L L0) (k : ∀ v' w', Holds w' (rdE g v' d' :: L0) → R (.returned (.int .i64 e)) w') : Calls Tryz.prog 48 #[.pointer (some ⟨g, 0, none⟩)] W R := by
  refine rsync_k H hm fun v' w' h => ?_
  rw [hz] at h ⊢
  exact k v' w' h
theorem dfuse_c (N : Int) (hw : (Lit.int .i64 N).wf = true) (hz : d.fuse N = d') (H : Holds W L) (hm : Pull (dkE g v d) L L0) (k : ∀ w', Holds w' (dkE g v d' :: L0) → R (.returned (.int .i64 0)) w') : Calls Tryz.prog 12 #[.pointer (some ⟨g, 0, none⟩), .int .i64 N] W R := by
  subst hz
  have hb : IntKind.i64.min ≤ N ∧ N ≤ IntKind.i64.max := by simpa [Lit.wf] using hw
  exact fuse_k N hb.1 hb.2 H hm k
theorem rfuse_c (N : Int) (hw : (Lit.int .i64 N).wf = true) (hz : d.fuse N = d') (H : Holds W L) (hm : Pull (rdE g r d) L L0) (k : ∀ w', Holds w' (rdE g r d' :: L0) → R (.returned (.int .i64 0)) w') : Calls Tryz.prog 13 #[.pointer (some ⟨g, 0, none⟩), .int .i64 N] W R := by
  subst hz
  have hb : IntKind.i64.min ≤ N ∧ N ≤ IntKind.i64.max := by simpa [Lit.wf] using hw
  exact rfuse_k N hb.1 hb.2 H hm k
theorem dfail_c {A : Option Addr} {c n : Nat} (kept : List Bool) (hz : d.failD kept = d') (H : Holds W L) (hm : Pull (dkE g v d) L L0) (hr : Gives L0 fun w => Rd w 1 A n c (kept.map Value.bool)) (hlen : d.wa.length ≤ 1000000)
    (k : ∀ g2 v2 w', Holds w' (dkE g2 v2 d' :: dkE g v d :: L0) → R (.returned (.tuple #[.pointer (some ⟨g2, 0, none⟩), .int .i64 0])) w') :
    Calls Tryz.prog 14 #[.pointer (some ⟨g, 0, none⟩), .slice A n c] W R := by
  subst hz
  exact fail_k H hm hr hlen k
theorem rfail_c {A : Option Addr} {c n : Nat} (kept : List Bool) (hz : d.failD kept = d') (H : Holds W L) (hm : Pull (rdE g r d) L L0) (hr : Gives L0 fun w => Rd w 1 A n c (kept.map Value.bool)) (hlen : d.wa.length ≤ 1000000)
    (k : ∀ g2 v2 w', Holds w' (rdE g2 v2 d' :: rdE g r d :: L0) → R (.returned (.pointer (some ⟨g2, 0, none⟩))) w') :
    Calls Tryz.prog 15 #[.pointer (some ⟨g, 0, none⟩), .slice A n c] W R := by
  subst hz
  exact rfail_k H hm hr hlen k
end
end Go.Proofs.YtdnioigcgggdbaaGreatDoor
set_option linter.unusedVariables false
set_option linter.unusedSimpArgs false
namespace Go.Proofs.YtdnioigcgggdbaaGreatDoor
open Go.RowKit

def srE (x : Option Addr × Nat) (s : List UInt8) : Ent := rowE 5 x.1 s.length x.2 (bvs s)
def srsE (q : List (Option Addr × Nat)) (ls : List (List UInt8)) : Ent := packE (List.zipWith srE q ls) (q.length = ls.length)
theorem srz_own {q : List (Option Addr × Nat)} {ls : List (List UInt8)} : ∀ e ∈ List.zipWith srE q ls, e.own = true := by
  intro e he
  obtain ⟨j, hj⟩ := List.mem_iff_getElem?.1 he
  rw [List.getElem?_zipWith] at hj
  split at hj
  · cases hj; rfl
  · cases hj
section
variable {W : World} {L L' L0 : List Ent} {R : Ending → World → Prop} {q : List (Option Addr × Nat)} {ls : List (List UInt8)}
theorem srs_new (H : Holds W L) : Holds W (srsE [] [] :: L) := Holds.pack (l := []) H rfl (by intro e he; cases he)
theorem srs_add {x : Option Addr × Nat} {s : List UInt8} (H : Holds W (srE x s :: srsE q ls :: L)) : Holds W (srsE (q ++ [x]) (ls ++ [s]) :: L) := by
  have H1 := H.perm (List.Perm.swap _ _ _)
  obtain ⟨hl, H2⟩ := H1.unpack
  refine Holds.pack ?_ (by rw [List.length_append, List.length_append, hl]; rfl) srz_own
  rw [List.zipWith_append hl]
  refine H2.perm ?_
  rw [List.append_assoc]
  exact .refl _
theorem srs_len (H : Holds W L) (h : srsE q ls ∈ L) : q.length = ls.length := (H.all _ h).1
theorem gives_srs {j : Nat} {x : Option Addr × Nat} {s : List UInt8} (h : srsE q ls ∈ L) (hq : q[j]? = some x) (hj : ls[j]? = some s) : Gives L fun w => Rd w 1 x.1 s.length x.2 (bvs s) :=
  fun w H => row_rd ((H.all _ h).2.all (srE x s) (List.mem_of_getElem? (i := j) (by rw [List.getElem?_zipWith, hq, hj])))
theorem zip_rhS {q : List (Option Addr × Nat)} {ls : List (List UInt8)} {j : Nat} {x : Option Addr × Nat} {s : List UInt8} (hx : q[j]? = some x) (hs : ls[j]? = some s) : (List.zipWith rh q ls)[j]? = some (rh x s) := by
  rw [List.getElem?_zipWith, hx, hs]
end
end Go.Proofs.YtdnioigcgggdbaaGreatDoor
namespace Go.Proofs.YtdnioigcgggdbaaGreatDoor

/-- k bytes of n, the highest first. -/
def be : Nat → Nat → List UInt8
  | 0, _ => []
  | k + 1, n => UInt8.ofNat (n / 256 ^ k) :: be k n
/-- the number that bytes tell. -/
def ofBe (l : List UInt8) : Nat := l.foldl (fun acc b => acc * 256 + b.toNat) 0

theorem be_length (k n : Nat) : (be k n).length = k := by induction k with | zero => rfl | succ k ih => simp [be, ih]
theorem be_getElem? {k n j : Nat} (h : j < k) : (be k n)[j]? = some (UInt8.ofNat (n / 256 ^ (k - 1 - j))) := by
  induction k generalizing j with
  | zero => omega
  | succ k ih =>
    cases j with
    | zero => simp [be]
    | succ j =>
      simp only [be, List.getElem?_cons_succ]
      rw [ih (by omega)]
      congr 4
      omega
theorem foldl_be (l : List UInt8) (acc : Nat) : l.foldl (fun acc b => acc * 256 + b.toNat) acc = acc * 256 ^ l.length + ofBe l := by
  induction l generalizing acc with
  | nil => simp [ofBe]
  | cons x l ih =>
    simp only [ofBe, List.foldl_cons, List.length_cons]
    rw [ih, ih (0 * 256 + x.toNat), Nat.pow_succ, Nat.zero_mul, Nat.zero_add, Nat.add_mul, Nat.mul_assoc, Nat.mul_comm 256, Nat.add_assoc]
theorem ofBe_cons (x : UInt8) (l : List UInt8) : ofBe (x :: l) = x.toNat * 256 ^ l.length + ofBe l := by
  have := foldl_be l x.toNat
  simpa [ofBe] using this
theorem ofBe_lt (l : List UInt8) : ofBe l < 256 ^ l.length := by
  induction l with
  | nil => simp [ofBe]
  | cons x l ih =>
    rw [ofBe_cons, List.length_cons, Nat.pow_succ]
    have hx := x.toNat_lt
    have : x.toNat * 256 ^ l.length ≤ 255 * 256 ^ l.length := Nat.mul_le_mul_right _ (by omega)
    omega
theorem or_shift {t b j : Nat} (h : t < 256 ^ j) : t ||| (b <<< (8 * j)) = b * 256 ^ j + t := by
  have e : (256 : Nat) ^ j = 2 ^ (8 * j) := by rw [Nat.pow_mul]
  rw [Nat.or_comm, ← Nat.shiftLeft_add_eq_or_of_lt (by rw [← e]; exact h), Nat.shiftLeft_eq, e]
end Go.Proofs.YtdnioigcgggdbaaGreatDoor
namespace Go.Proofs.YtdnioigcgggdbaaGreatDoor

/-! ### the sum -/
def adM : Nat := 65521
def adStep (p : Nat × Nat) (c : UInt8) : Nat × Nat := ((p.1 + c.toNat) % adM, (p.2 + (p.1 + c.toNat)) % adM)
def adRun (p : Nat × Nat) (l : List UInt8) : Nat × Nat := l.foldl adStep p
def ad0 (s : Nat) : Nat × Nat := (s % 65536 % adM, s / 65536 % adM)
def adOut (p : Nat × Nat) : Nat := p.2 * 65536 + p.1
def onF (s : Nat) (b : List UInt8) : Nat := adOut (adRun (ad0 s) b)
theorem adRun_append (p : Nat × Nat) (a b : List UInt8) : adRun p (a ++ b) = adRun (adRun p a) b := List.foldl_append
theorem adRun_lt : ∀ (l : List UInt8) (p : Nat × Nat), p.1 < adM → p.2 < adM → (adRun p l).1 < adM ∧ (adRun p l).2 < adM
  | [], p, h1, h2 => ⟨h1, h2⟩
  | c :: l, p, _, _ => adRun_lt l _ (Nat.mod_lt _ (by decide)) (Nat.mod_lt _ (by decide))
theorem ad0_lt (s : Nat) : (ad0 s).1 < adM ∧ (ad0 s).2 < adM := ⟨Nat.mod_lt _ (by decide), Nat.mod_lt _ (by decide)⟩
theorem ad0_out {p : Nat × Nat} (h1 : p.1 < adM) (h2 : p.2 < adM) : ad0 (adOut p) = p := by
  unfold adM at h1 h2
  unfold ad0 adOut adM
  obtain ⟨x, y⟩ := p
  simp only at h1 h2 ⊢
  congr 1 <;> omega
theorem adOut_lt {p : Nat × Nat} (h1 : p.1 < adM) (h2 : p.2 < adM) : adOut p < 4294967296 := by
  unfold adM at h1 h2
  unfold adOut
  omega
theorem onF_lt (s : Nat) (b : List UInt8) : onF s b < 4294967296 := by
  obtain ⟨h1, h2⟩ := adRun_lt b (ad0 s) (ad0_lt s).1 (ad0_lt s).2
  exact adOut_lt h1 h2
theorem onF_onF (s : Nat) (a b : List UInt8) : onF (onF s a) b = onF s (a ++ b) := by
  obtain ⟨h1, h2⟩ := adRun_lt a (ad0 s) (ad0_lt s).1 (ad0_lt s).2
  unfold onF
  rw [ad0_out h1 h2, adRun_append]
/-- one step, not reduced: what is left of it is the reduced step. -/
theorem adStep_mod (x y : Nat) (c : UInt8) : adStep (x % adM, y % adM) c = ((x + c.toNat) % adM, (y + (x + c.toNat)) % adM) := by
  unfold adStep adM
  simp only
  congr 1 <;> omega

/-! ### the frame -/
def secs (many : Nat) : Nat := (18 + many + 63) / 64
def recM : List UInt8 := [82, 69, 67, 49]
def tl (num n : Nat) : List UInt8 := be 8 num ++ be 2 n
def headF (num : Nat) (b : List UInt8) : List UInt8 := recM ++ (tl num b.length ++ (be 4 (onF (onF 1 (tl num b.length)) b) ++ b))
def putF (num : Nat) (b : List UInt8) : List UInt8 := headF num b ++ List.replicate (secs b.length * 64 - (18 + b.length)) 0
theorem tl_len (num n : Nat) : (tl num n).length = 10 := by unfold tl; rw [List.length_append, be_length, be_length]
theorem headF_len (num : Nat) (b : List UInt8) : (headF num b).length = 18 + b.length := by
  unfold headF recM
  rw [List.length_append, List.length_append, List.length_append, tl_len, be_length]
  simp only [List.length_cons, List.length_nil]
  omega
theorem secs_le (m : Nat) : 18 + m ≤ secs m * 64 := by unfold secs; omega
theorem secs_lt (m : Nat) : secs m * 64 < 18 + m + 64 := by unfold secs; omega
theorem secs_pos (m : Nat) : 64 ≤ secs m * 64 := by unfold secs; omega
theorem putF_len (num : Nat) (b : List UInt8) : (putF num b).length = secs b.length * 64 := by
  unfold putF
  rw [List.length_append, headF_len, List.length_replicate]
  have := secs_le b.length
  omega
def fNum (b : List UInt8) : Nat := ofBe ((b.drop 4).take 8)
def fMany (b : List UInt8) : Nat := ofBe ((b.drop 12).take 2)
def fRec (b : List UInt8) : List UInt8 := (b.drop 18).take (fMany b)
def fTail (b : List UInt8) : List UInt8 := (b.take (secs (fMany b) * 64)).drop (18 + fMany b)
/-- what is wrong with bytes that may be a frame; 0: nothing. -/
def fErr (b : List UInt8) : Nat :=
  if b.length < 64 then 5
  else if ¬ (b.take 4 = recM ∧ fMany b ≤ 256) then 4
  else if b.length < secs (fMany b) * 64 then 5
  else if (fTail b).any (· != 0) then 4
  else if onF (onF 1 ((b.drop 4).take 10)) (fRec b) ≠ ofBe ((b.drop 14).take 4) then 6
  else 0
section
variable {num : Nat} {b z : List UInt8}
end
end Go.Proofs.YtdnioigcgggdbaaGreatDoor
set_option linter.unusedVariables false
set_option linter.unusedSimpArgs false
namespace Go.Proofs.YtdnioigcgggdbaaGreatDoor
open Go.RowKit

def bothV (p : Nat × Nat) : Value := .agg #[.int .u64 ((p.1 : Nat) : Int), .int .u64 ((p.2 : Nat) : Int)]
theorem tmodM (x : Nat) : ((x : Nat) : Int).tmod 65521 = ((x % adM : Nat) : Int) := by
  unfold adM
  rw [Int.tmod_eq_emod_of_nonneg (by omega)]
  omega
section
variable {W : World} {L L' L0 : List Ent} {R : Ending → World → Prop}
set_option maxRecDepth 100000 in
set_option maxHeartbeats 1000000 in
theorem sleft_k (X Y : Nat) (H : Holds W L) (k : ∀ w', Holds w' L → R (.returned (bothV (X % adM, Y % adM))) w') :
    Calls Tryz.prog 131 #[.agg #[.int .u64 ((X : Nat) : Int), .int .u64 ((Y : Nat) : Int)]] W R := by
  have HK := Lib.hid k; clear k
  have hX := tmodM X
  have hY := tmodM Y
  generalize X % adM = X2 at hX HK
  generalize Y % adM = Y2 at hY HK
  go_enter Tryz.func131, Tryz.ntmps131
  go_wp2_with (first | ((with_reducible refine wpl_absorb H ?_); clear H; (first  | generalize W.heap.size = q0); (try clear W); intro W H) | ((with_reducible apply wpl_load H); (case hs => exact sc _ rfl); (case hw | hx => rfl); (case hm => (with_reducible repeat first | exact mH | apply mT)); (case hv => rfl)) | ((with_reducible apply wpl_store H); (case hw | hx | hy => rfl); (case hm => (with_reducible repeat first | exact Upd.here)); (case hs => exact sz_ag _ _ rfl); (case h1 => rfl); (case hk => exact Nat.le_of_ble_eq_true rfl); clear H; (try clear W); intro W H; first | simp only [setL, List.set_cons_zero, List.set_cons_succ] at H))
  exact ret_cell rfl (ag _ _ rfl) rfl H (by (with_reducible repeat first | exact mH | assumption | apply mT)) rfl (HK.out _ (Reord.use H (by ((repeat (with_reducible apply Reord.cons; (case p => (with_reducible repeat first | exact Pull.here | apply Pull.there)))); repeat (first | with_reducible exact Reord.rest | with_reducible apply Reord.drop)))))
end
end Go.Proofs.YtdnioigcgggdbaaGreatDoor
set_option linter.unusedVariables false
set_option linter.unusedSimpArgs false
namespace Go.Proofs.YtdnioigcgggdbaaGreatDoor
open Go.RowKit

/-- the loop's numbers, not reduced. -/
def rwStep (p : Nat × Nat) (c : UInt8) : Nat × Nat := (p.1 + c.toNat, p.2 + (p.1 + c.toNat))
def rwRun (p : Nat × Nat) (l : List UInt8) : Nat × Nat := l.foldl rwStep p
theorem rwRun_mod : ∀ (l : List UInt8) (p : Nat × Nat), adRun (p.1 % adM, p.2 % adM) l = ((rwRun p l).1 % adM, (rwRun p l).2 % adM)
  | [], p => rfl
  | c :: l, p => by
    have := rwRun_mod l (rwStep p c)
    unfold adRun rwRun at *
    rw [List.foldl_cons, List.foldl_cons, adStep_mod]
    exact this
theorem rwRun_le : ∀ (l : List UInt8) (p : Nat × Nat) (M : Nat), p.1 + 255 * l.length ≤ M → (rwRun p l).1 ≤ M ∧ (rwRun p l).2 ≤ p.2 + M * l.length
  | [], p, M, h => ⟨by simpa [rwRun] using h, by simp [rwRun]⟩
  | c :: l, p, M, h => by
    have hc := c.toNat_lt
    rw [List.length_cons] at h
    have := rwRun_le l (rwStep p c) M (by unfold rwStep; simp only; omega)
    refine ⟨this.1, Nat.le_trans this.2 ?_⟩
    unfold rwStep
    simp only [List.length_cons, Nat.mul_add, Nat.mul_one]
    omega
theorem rwRun_snoc (p : Nat × Nat) (l : List UInt8) (c : UInt8) : rwRun p (l ++ [c]) = rwStep (rwRun p l) c := by unfold rwRun; rw [List.foldl_append]; rfl
section
variable {W : World} {L L' L0 : List Ent} {R : Ending → World → Prop}
set_option maxRecDepth 100000 in
set_option maxHeartbeats 1000000 in
theorem takes_k {A : Option Addr} {n c X Y : Nat} {l : List UInt8} (hX : X < adM) (hY : Y < adM) (hn : n ≤ 1024) (G : Gives L fun w => Rd w 1 A n c (bvs l)) (H : Holds W L) (k : ∀ w', Holds w' L → R (.returned (bothV (adRun (X, Y) l))) w') :
    Calls Tryz.prog 133 #[.agg #[.int .u64 ((X : Nat) : Int), .int .u64 ((Y : Nat) : Int)], .slice A n c] W R := by
  have HK := Lib.hid k; clear k
  have hl := (G W H).blen
  have he : adRun (X, Y) l = ((rwRun (X, Y) l).1 % adM, (rwRun (X, Y) l).2 % adM) := by
    have := rwRun_mod l (X, Y)
    rwa [Nat.mod_eq_of_lt hX, Nat.mod_eq_of_lt hY] at this
  rw [he] at HK
  clear he
  unfold adM at hX hY
  go_enter Tryz.func133, Tryz.ntmps133
  go_wp2_with (first | ((with_reducible refine wpl_absorb H ?_); clear H; (first | ((fail_if_success (have _t := q1)); generalize W.heap.size = q1) | ((fail_if_success (have _t := q2)); generalize W.heap.size = q2) ); (try clear W); intro W H) )
  go_loopw [9] (fun i wr => ∃ k : Nat, k ≤ n ∧ i = .int .i64 k ∧ Holds wr (blk q2 [.int .u64 0, .int .u64 0] 188 :: blk q1 [.int .u64 (((rwRun (X, Y) (l.take k)).1 : Nat) : Int), .int .u64 (((rwRun (X, Y) (l.take k)).2 : Nat) : Int)] 188 :: L)) (fun i _ => n - (intOf i).toNat)
  case atStart => exact ⟨0, by omega, rfl, by simpa [rwRun] using H⟩
  case round =>
    clear H
    obtain ⟨k, hk, rfl, H⟩ := hrel
    rename World => W
    have hb := rwRun_le (l.take k) (X, Y) 326640 (by rw [List.length_take]; simp only; omega)
    rw [List.length_take, show min k l.length = k from by omega] at hb
    simp only at hb
    by_cases hlt : k < n
    · obtain ⟨x, hx⟩ : ∃ x, l[k]? = some x := ⟨_, List.getElem?_eq_getElem (by omega)⟩
      have hrun : rwRun (X, Y) (l.take (k + 1)) = rwStep (rwRun (X, Y) (l.take k)) x := by rw [List.take_add_one, hx]; exact rwRun_snoc _ _ _
      have Hrun := Lib.hid hrun
      have Hx := Lib.hid hx
      clear hrun hx
      generalize rwRun (X, Y) (l.take k) = p at *
      obtain ⟨x1, y1⟩ := p
      simp only at hb
      have hki : (k : Int) < n := by omega
      have hx2 := x.toNat_lt
      obtain ⟨a1, o1, rfl, -⟩ := (G W H.tail.tail).at_ (by omega)
      have w1 := Lib.hid (wrap_u64_small (x := (x1 : Int) + (x.toNat : Int)) (by omega) (by omega))
      have w2 := Lib.hid (wrap_u64_small (x := (y1 : Int) + ((x1 : Int) + (x.toNat : Int))) (by omega) (by omega))
      go_wp2_with (first | ((with_reducible apply wpl_load H); (case hs => exact sc _ rfl); (case hw | hx => rfl); (case hm => (with_reducible repeat first | exact mH | apply mT)); (case hv => rfl)) | ((with_reducible apply wpl_loadB H); (case hs => exact sc _ rfl); (case hw | hx => rfl); (case hm => (first | (repeat (first | assumption | with_reducible apply Gives.cons)))); (case hj => first | assumption )) | ((with_reducible apply wpl_store1 H); (case hs => exact sz_sc _ rfl); (case hw | hx => rfl); (case hy => (first | exact (rfl : _ = Value.int _ _) )); (case hm => (with_reducible repeat first | exact Upd.here | apply Upd.there)); (case h1 => rfl); (case hk => exact Nat.le_of_ble_eq_true rfl); clear H; (try clear W); intro W H; simp only [setL, List.set_cons_zero, List.set_cons_succ] at H) )
      have hxk : l[k]'(by omega) = x := by
        have := Hx.out
        rwa [List.getElem?_eq_getElem (by omega), Option.some.injEq] at this
      rw [hxk, wrap_u64_small (x := (x.toNat : Int)) (by omega) (by omega), w1.out, w2.out] at H
      refine ⟨⟨k + 1, by omega, congrArg (Value.int .i64) (by omega), ?_⟩, by simp only [intOf]; omega⟩
      rw [Hrun.out]
      simpa only [rwStep, Int.natCast_add] using H
    · obtain rfl : k = n := by omega
      rw [List.take_of_length_le (by omega)] at H hb
      generalize rwRun (X, Y) l = p at *
      obtain ⟨x1, y1⟩ := p
      have hki : ¬ (k : Int) < k := by omega
      go_wp2_with (first | ((with_reducible apply wpl_loadA H); (case hs => exact ag _ _ rfl); (case hw | hx => rfl); (case hm => (with_reducible repeat first | exact mH | apply mT)); (case hv | hl => rfl); (try simp only [List.drop_zero, List.drop_succ_cons, List.take_succ_cons, List.take_zero, List.take_nil])) | ((with_reducible apply wpl_store H); (case hw | hx | hy => rfl); (case hm => (with_reducible repeat first | exact Upd.here)); (case hs => exact sz_ag _ _ rfl); (case h1 => rfl); (case hk => exact Nat.le_of_ble_eq_true rfl); clear H; (try clear W); intro W H; first | simp only [setL, List.set_cons_zero, List.set_cons_succ] at H) | (with_reducible apply sleft_k x1 y1 H; clear H; (try clear W); intro W H))
      exact ret_cell rfl (ag _ _ rfl) rfl H (by (with_reducible repeat first | exact mH | assumption | apply mT)) rfl (HK.out _ H.tail.tail)
theorem takes_e {A : Option Addr} {n c X Y : Nat} {l : List UInt8} (w : World) (hX : X < adM) (hY : Y < adM) (hn : n ≤ 1024) (hr : Rd w 1 A n c (bvs l)) :
    Calls Tryz.prog 133 #[.agg #[.int .u64 ((X : Nat) : Int), .int .u64 ((Y : Nat) : Int)], .slice A n c] w fun e w' => e = .returned (bothV (adRun (X, Y) l)) ∧ Ext w w' :=
  takes_k (L := [base w]) hX hY hn (fun w' H => hr.ext H.head) (holds_base w) fun w' H => ⟨rfl, H.head⟩
theorem sleft_e (w : World) (X Y : Nat) : Calls Tryz.prog 131 #[.agg #[.int .u64 ((X : Nat) : Int), .int .u64 ((Y : Nat) : Int)]] w fun e w' => e = .returned (bothV (X % adM, Y % adM)) ∧ Ext w w' :=
  sleft_k (L := [base w]) X Y (holds_base w) fun w' H => ⟨rfl, H.head⟩
end
end Go.Proofs.YtdnioigcgggdbaaGreatDoor
