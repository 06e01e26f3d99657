/-
  Numbers as bytes, the highest first: plain facts. Nothing of the program stands here.
-/
namespace Go.Proofs.Ytdnioigcgggdbaa

/-- k bytes of n, the highest first. -/
def be : Nat → Nat → List UInt8
  | 0, _ => []
  | k + 1, n => UInt8.ofNat (n / 256 ^ k) :: be k n
/-- the number that bytes tell. -/
def ofBe (l : List UInt8) : Nat := l.foldl (fun acc b => acc * 256 + b.toNat) 0

theorem be_length (k n : Nat) : (be k n).length = k := by induction k with | zero => rfl | succ k ih => simp [be, ih]
theorem be_getElem? {k n j : Nat} (h : j < k) : (be k n)[j]? = some (UInt8.ofNat (n / 256 ^ (k - 1 - j))) := by
  induction k generalizing j with
  | zero => omega
  | succ k ih =>
    cases j with
    | zero => simp [be]
    | succ j =>
      simp only [be, List.getElem?_cons_succ]
      rw [ih (by omega)]
      congr 4
      omega
theorem be_add (a b n : Nat) : be (a + b) n = be a (n / 256 ^ b) ++ be b n := by
  induction a with
  | zero => simp [be]
  | succ a ih =>
    rw [show a + 1 + b = (a + b) + 1 by omega]
    simp only [be, ih, List.cons_append]
    rw [Nat.div_div_eq_div_mul, ← Nat.pow_add, Nat.add_comm b a]
theorem u8_mod (n : Nat) : UInt8.ofNat (n % 256) = UInt8.ofNat n := by
  apply UInt8.toNat.inj; simp
theorem be_mod (k m n : Nat) (h : k ≤ m) : be k (n % 256 ^ m) = be k n := by
  induction k with
  | zero => rfl
  | succ k ih =>
    simp only [be, ih (by omega)]
    congr 1
    rw [← u8_mod (n % 256 ^ m / 256 ^ k), ← u8_mod (n / 256 ^ k)]
    congr 1
    obtain ⟨d, rfl⟩ : ∃ d, m = k + 1 + d := ⟨m - (k + 1), by omega⟩
    rw [Nat.pow_add, Nat.pow_succ, Nat.mul_assoc, Nat.mod_mul_right_div_self, Nat.mod_mul_right_mod]
theorem foldl_be (l : List UInt8) (acc : Nat) : l.foldl (fun acc b => acc * 256 + b.toNat) acc = acc * 256 ^ l.length + ofBe l := by
  induction l generalizing acc with
  | nil => simp [ofBe]
  | cons x l ih =>
    simp only [ofBe, List.foldl_cons, List.length_cons]
    rw [ih, ih (0 * 256 + x.toNat), Nat.pow_succ, Nat.zero_mul, Nat.zero_add, Nat.add_mul, Nat.mul_assoc, Nat.mul_comm 256, Nat.add_assoc]
theorem ofBe_nil : ofBe [] = 0 := rfl
theorem ofBe_cons (x : UInt8) (l : List UInt8) : ofBe (x :: l) = x.toNat * 256 ^ l.length + ofBe l := by
  have := foldl_be l x.toNat
  simpa [ofBe] using this
theorem ofBe_append (a b : List UInt8) : ofBe (a ++ b) = ofBe a * 256 ^ b.length + ofBe b := by
  unfold ofBe; rw [List.foldl_append, foldl_be]; rfl
theorem ofBe_lt (l : List UInt8) : ofBe l < 256 ^ l.length := by
  induction l with
  | nil => simp [ofBe]
  | cons x l ih =>
    rw [ofBe_cons, List.length_cons, Nat.pow_succ]
    have hx := x.toNat_lt
    have : x.toNat * 256 ^ l.length ≤ 255 * 256 ^ l.length := Nat.mul_le_mul_right _ (by omega)
    omega
theorem ofBe_be (k n : Nat) : ofBe (be k n) = n % 256 ^ k := by
  induction k with
  | zero => simp [be, ofBe, Nat.mod_one]
  | succ k ih =>
    rw [be, ofBe_cons, be_length, ih, UInt8.toNat_ofNat', Nat.pow_succ (m := k), Nat.mod_mul (a := 256 ^ k) (b := 256)]
    rw [Nat.mul_comm (256 ^ k), Nat.add_comm]
theorem be_ofBe (l : List UInt8) : be l.length (ofBe l) = l := by
  induction l with
  | nil => rfl
  | cons x l ih =>
    rw [List.length_cons, be, ofBe_cons]
    have hlt := ofBe_lt l
    have hp : 0 < 256 ^ l.length := Nat.pow_pos (by omega)
    congr 1
    · rw [Nat.mul_comm, Nat.mul_add_div hp, Nat.div_eq_of_lt hlt]; simp
    · rw [← be_mod l.length l.length _ (Nat.le_refl _), Nat.mul_add_mod', Nat.mod_eq_of_lt hlt, ih]
theorem or_shift {t b j : Nat} (h : t < 256 ^ j) : t ||| (b <<< (8 * j)) = b * 256 ^ j + t := by
  have e : (256 : Nat) ^ j = 2 ^ (8 * j) := by rw [Nat.pow_mul]
  rw [Nat.or_comm, ← Nat.shiftLeft_add_eq_or_of_lt (by rw [← e]; exact h), Nat.shiftLeft_eq, e]
end Go.Proofs.Ytdnioigcgggdbaa
