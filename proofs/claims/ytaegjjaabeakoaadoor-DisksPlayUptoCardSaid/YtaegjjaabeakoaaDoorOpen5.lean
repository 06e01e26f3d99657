/-
  A slice of structs of six (a byte, a number, bytes, a number, a byte, bools) that came in, with what its bulk bounds. Nothing of the program stands here.
-/
import Derived.Test.YtaegjjaabeakoaaDoorOpen4
namespace Go.Proofs.YtaegjjaabeakoaaDoor
open Go.RowKit Go.ChangeShapes Go.WideShapes

structure ActV where
  K : UInt8
  N : Int
  b : List UInt8
  M : Int
  Y : UInt8
  kept : List Bool
  deriving Inhabited
/-- the cells of one, from the j-th on. -/
structure ActAt (W : World) (B : Nat) (cs : List Value) (j : Nat) (x : ActV) : Prop where
  k0 : cs[j]? = some (.int .u8 ((x.K.toNat : Nat) : Int))
  k1 : cs[j + 1]? = some (.int .i64 x.N)
  w1 : (Lit.int .i64 x.N).wf = true
  k2 : ∃ A m c, cs[j + 2]? = some (.slice A m c) ∧ Rd W 1 A m c (bvs x.b)
  l2 : x.b.length ≤ B
  k3 : cs[j + 3]? = some (.int .i64 x.M)
  w3 : (Lit.int .i64 x.M).wf = true
  k4 : cs[j + 4]? = some (.int .u8 ((x.Y.toNat : Nat) : Int))
  k5 : ∃ A m c, cs[j + 5]? = some (.slice A m c) ∧ Rd W 1 A m c (x.kept.map Value.bool)
  l5 : x.kept.length ≤ B
section
variable {H : Type} {enc : TypeId × Value → H} {P : Program} {W : World} {base : Nat} {held : Bool}
theorem rd_of_rows {t s : TypeId} {n fuel : Nat} {a : Option Addr} {len cap : Nat} {x : DataW H × List MemPlace} (hs : P.underlying s = some (.slice t)) (hc : P.cellsOf t = n) (h0 : 0 < n)
    (h : DataW.trod enc P W base (fun _ => true) held fuel s [.slice a len cap] = some x) :
    ∃ cs, Rd W n a len cap cs ∧ (len = 0 ∨ ∃ e sp, x.1 = .slice e sp ∧ e.length = len) ∧ ∀ i, i < len → ∃ cs' f y e sp, cs'.length = n ∧ (∀ j, j < n → cs[i * n + j]? = cs'[j]?) ∧ DataW.trod enc P W base (fun _ => true) held f t cs' = some y ∧ x.1 = .slice e sp ∧ y.1 ∈ e := by
  rcases Deep.open_slice hs h with ⟨hcs, _⟩ | ⟨ad, len', cap', m, k, D, Pl, hcs, hb, hle, hm, hmm, hx, hel⟩
  · simp at hcs
    obtain ⟨rfl, rfl, rfl⟩ := hcs
    exact ⟨[], Rd.nil_ _ _, .inl rfl, fun i hi => by omega⟩
  · simp at hcs
    obtain ⟨rfl, rfl, rfl⟩ := hcs
    simp only [↓reduceIte] at hmm
    subst hmm
    rw [hc] at hel
    obtain ⟨f, hf⟩ := Deep.choose_lt (α := List Value) (n := m) (p := fun i l => l.length = n ∧ (∀ j, j < n → W.cell? (ad.add (i * n + j)) = l[j]?) ∧ DataW.trod enc P W base (fun _ => true) held k t l = some (D i, Pl i)) (fun i hi => by
      obtain ⟨cs', h1, h2⟩ := hel i hi
      obtain ⟨_, hl, h5⟩ := World.cells?_some h1
      refine ⟨cs', hl, fun j hj => ?_, h2⟩
      rw [← Deep.add_add, h5 j hj])
    have cell : ∀ j, j < m * n → ∃ b : Value, W.cell? (ad.add j) = some b := fun j hj => by
      have hq : j / n < m := Nat.div_lt_of_lt_mul (by rw [Nat.mul_comm]; exact hj)
      have hr := Nat.mod_lt j h0
      obtain ⟨h1, h2, -⟩ := hf _ hq
      have h3 := h2 _ hr
      rw [Nat.div_add_mod'] at h3
      exact ⟨_, by rw [h3, List.getElem?_eq_getElem (by omega)]⟩
    obtain ⟨g, hg⟩ := Deep.choose_lt (α := Value) (p := fun j b => W.cell? (ad.add j) = some b) cell
    have hle2 : len * n ≤ m * n := Nat.mul_le_mul_right _ hle
    refine ⟨(List.range (len * n)).map g, ⟨hle, hm, by simp, (fun h => by cases h), fun hp => ?_⟩, .inr ⟨_, _, by rw [hx], by simp⟩, ?_⟩
    · have hp' : 0 < len * n := Nat.mul_pos hp h0
      obtain ⟨b, o, spot⟩ := ad
      have hspot : spot = none := by simpa [Addr.add] using World.cell?_spot (hg 0 (by omega))
      subst hspot
      refine ⟨b, o, rfl, fun j hj => ?_⟩
      rw [← Go.WideShapes.add_plain, hg j (by omega), List.getElem?_map, List.getElem?_range hj]
      rfl
    · intro i hi
      obtain ⟨h1, h2, h3⟩ := hf i (by omega)
      refine ⟨f i, k, (D i, Pl i), _, _, h1, fun j hjn => ?_, h3, by rw [hx], List.mem_map.2 ⟨i, by simpa using hi, rfl⟩⟩
      have hlt : i * n + j < len * n := by
        have : (i + 1) * n ≤ len * n := Nat.mul_le_mul_right _ hi
        rw [Nat.succ_mul] at this
        omega
      rw [List.getElem?_map, List.getElem?_range hlt]
      have h6 := h2 j hjn
      rw [hg _ (by omega)] at h6
      exact h6
theorem rd_of_act {t u it bs ks bt : TypeId} {fs : Array Field} {fuel : Nat} {cs : List Value} {x : DataW H × List MemPlace} (bulk : DataW H → Nat) (hagg : ∀ l d, d ∈ l → bulk d ≤ bulk (.agg l)) (hln : ∀ e sp, e.length ≤ bulk (.slice e sp))
    (ht : P.underlying t = some (.struct fs)) (hf : fs.toList.map (fun f => (f.offset, f.type)) = [(0, u), (1, it), (2, bs), (3, it), (4, u), (5, ks)]) (hc : P.cellsOf t = 6)
    (hu : P.underlying u = some (.int .u8)) (hcu : P.cellsOf u = 1) (hi : P.underlying it = some (.int .i64)) (hci : P.cellsOf it = 1) (hb : P.underlying bs = some (.slice u)) (hcb : P.cellsOf bs = 1)
    (hk : P.underlying ks = some (.slice bt)) (hck : P.cellsOf ks = 1) (hbt : P.underlying bt = some .bool) (hcbt : P.cellsOf bt = 1)
    (h : DataW.trod enc P W base (fun _ => true) held fuel t cs = some x) : cs.length = 6 ∧ ∃ y, ActAt W (bulk x.1) cs 0 y := by
  obtain ⟨xs, n, -, rfl, hl, hxl, hfs⟩ := DataW.trod_struct ht h
  rw [hc] at hl
  have hsz : fs.size = 6 := by
    have := congrArg List.length hf
    simpa using this
  rw [hsz] at hxl
  have H : ∀ (j : Nat) (T : TypeId) (o : Nat), [(0, u), (1, it), (2, bs), (3, it), (4, u), (5, ks)][j]? = some (o, T) → P.cellsOf T = 1 → o = j → j < 6 → ∃ c y, cs[j]? = some c ∧ y.1 ∈ xs.map (·.1) ∧ DataW.trod enc P W base (fun _ => true) held n T [c] = some y := by
    intro j T o hj hT ho hj6
    subst ho
    rw [← hf, List.getElem?_map] at hj
    obtain ⟨f, h1, h2⟩ := Option.map_eq_some_iff.1 hj
    have h3 := hfs o f (by simpa using h1)
    have h4 : f.type = T := (Prod.ext_iff.1 h2).2
    have h5 : f.offset = o := (Prod.ext_iff.1 h2).1
    rw [h4, h5, hT] at h3
    obtain ⟨y, hy⟩ : ∃ y, xs[o]? = some y := ⟨_, List.getElem?_eq_getElem (by omega)⟩
    obtain ⟨c, hc0⟩ : ∃ c, cs[o]? = some c := ⟨_, List.getElem?_eq_getElem (by omega)⟩
    have h6 : (cs.drop o).take 1 = [c] := by
      obtain ⟨h7, h8⟩ := List.getElem?_eq_some_iff.1 hc0
      rw [List.drop_eq_getElem_cons h7, h8]
      rfl
    rw [h6, hy] at h3
    exact ⟨c, y, hc0, List.mem_map.2 ⟨y, List.mem_of_getElem? hy, rfl⟩, h3⟩
  obtain ⟨c0, y0, e0, -, t0⟩ := H 0 u 0 rfl hcu rfl (by omega)
  obtain ⟨c1, y1, e1, -, t1⟩ := H 1 it 1 rfl hci rfl (by omega)
  obtain ⟨c2, y2, e2, m2, t2⟩ := H 2 bs 2 rfl hcb rfl (by omega)
  obtain ⟨c3, y3, e3, -, t3⟩ := H 3 it 3 rfl hci rfl (by omega)
  obtain ⟨c4, y4, e4, -, t4⟩ := H 4 u 4 rfl hcu rfl (by omega)
  obtain ⟨c5, y5, e5, m5, t5⟩ := H 5 ks 5 rfl hck rfl (by omega)
  obtain ⟨z0, a0, -, f0⟩ := DataW.trod_int hu t0
  obtain ⟨z1, a1, -, f1⟩ := DataW.trod_int hi t1
  obtain ⟨z3, a3, -, f3⟩ := DataW.trod_int hi t3
  obtain ⟨z4, a4, -, f4⟩ := DataW.trod_int hu t4
  obtain rfl : c0 = .int .u8 z0 := by simpa using a0
  obtain rfl : c1 = .int .i64 z1 := by simpa using a1
  obtain rfl : c3 = .int .i64 z3 := by simpa using a3
  obtain rfl : c4 = .int .u8 z4 := by simpa using a4
  have B2 : ∃ A m c l, c2 = .slice A m c ∧ Rd W 1 A m c (bvs l) ∧ l.length ≤ bulk y2.1 := by
    obtain ⟨B, m, k, l, rfl, hr⟩ := rd_of_bytes hb hu hcu t2
    have hl := hr.blen
    rcases Deep.open_slice hb t2 with ⟨hcs, _⟩ | ⟨ad, len', cap', m', k', D, Pl, hcs, -, -, -, -, hx, -⟩
    · simp at hcs
      obtain ⟨rfl, rfl, rfl⟩ := hcs
      exact ⟨_, _, _, l, rfl, hr, by omega⟩
    · simp at hcs
      obtain ⟨rfl, rfl, rfl⟩ := hcs
      refine ⟨_, _, _, l, rfl, hr, ?_⟩
      rw [hx]
      have := hln ((List.range m).map D) ((List.range (m' - m)).map fun j => D (m + j))
      simp at this
      simp only
      omega
  obtain ⟨A2, m2', k2, l2, rfl, r2, b2⟩ := B2
  have B5 : ∃ A m c, ∃ l : List Bool, c5 = .slice A m c ∧ Rd W 1 A m c (l.map Value.bool) ∧ l.length ≤ bulk y5.1 := by
    rcases Deep.open_slice hk t5 with ⟨hcs, _⟩ | ⟨ad, len', cap', m', k', D, Pl, hcs, -, -, -, -, hx, -⟩
    · obtain rfl : c5 = .slice none 0 0 := by simpa using hcs
      exact ⟨none, 0, 0, [], rfl, Rd.nil_ _ _, by simp⟩
    · obtain rfl : c5 = .slice (some ad) len' cap' := by simpa using hcs
      obtain ⟨l, hr⟩ := rd_of_bools hk hbt hcbt t5
      have hl := hr.len
      rw [List.length_map] at hl
      refine ⟨_, _, _, l, rfl, hr, ?_⟩
      rw [hx]
      have := hln ((List.range len').map D) ((List.range (m' - len')).map fun j => D (len' + j))
      simp at this
      simp only
      omega
  obtain ⟨A5, m5', k5, l5, rfl, r5, b5⟩ := B5
  exact ⟨hl, ⟨UInt8.ofNat z0.toNat, z1, l2, z3, UInt8.ofNat z4.toNat, l5⟩, by rw [e0, u8_of_wf f0], e1, f1, ⟨_, _, _, e2, r2⟩, Nat.le_trans b2 (hagg _ _ m2), e3, f3, by rw [e4, u8_of_wf f4], ⟨_, _, _, e5, r5⟩, Nat.le_trans b5 (hagg _ _ m5)⟩
theorem ActAt.move {B : Nat} {cs cs' : List Value} {i : Nat} {y : ActV} (h : ActAt W B cs' 0 y) (hc : ∀ j, j < 6 → cs[i * 6 + j]? = cs'[j]?) : ActAt W B cs (i * 6) y := by
  have c0 := hc 0 (by omega)
  have c1 := hc 1 (by omega)
  have c2 := hc 2 (by omega)
  have c3 := hc 3 (by omega)
  have c4 := hc 4 (by omega)
  have c5 := hc 5 (by omega)
  obtain ⟨k0, k1, w1, k2, l2, k3, w3, k4, k5, l5⟩ := h
  simp only [Nat.zero_add, Nat.add_zero] at *
  exact ⟨by rw [c0, k0], by rw [c1, k1], w1, by rw [c2]; exact k2, l2, by rw [c3, k3], w3, by rw [c4, k4], by rw [c5]; exact k5, l5⟩
theorem ActAt.le {B B' : Nat} {cs : List Value} {i : Nat} {y : ActV} (h : ActAt W B cs i y) (hb : B ≤ B') : ActAt W B' cs i y := by
  obtain ⟨k0, k1, w1, k2, l2, k3, w3, k4, k5, l5⟩ := h
  exact ⟨k0, k1, w1, k2, by omega, k3, w3, k4, k5, by omega⟩
theorem rd_of_acts {s t u it bs ks bt : TypeId} {fs : Array Field} {fuel : Nat} {a : Option Addr} {len cap : Nat} {x : DataW H × List MemPlace} (bulk : DataW H → Nat) (hagg : ∀ l d, d ∈ l → bulk d ≤ bulk (.agg l)) (hsl : ∀ e sp d, d ∈ e → bulk d ≤ bulk (.slice e sp)) (hln : ∀ e sp, e.length ≤ bulk (.slice e sp))
    (hs : P.underlying s = some (.slice t)) (ht : P.underlying t = some (.struct fs)) (hf : fs.toList.map (fun f => (f.offset, f.type)) = [(0, u), (1, it), (2, bs), (3, it), (4, u), (5, ks)]) (hc : P.cellsOf t = 6)
    (hu : P.underlying u = some (.int .u8)) (hcu : P.cellsOf u = 1) (hi : P.underlying it = some (.int .i64)) (hci : P.cellsOf it = 1) (hb : P.underlying bs = some (.slice u)) (hcb : P.cellsOf bs = 1)
    (hk : P.underlying ks = some (.slice bt)) (hck : P.cellsOf ks = 1) (hbt : P.underlying bt = some .bool) (hcbt : P.cellsOf bt = 1)
    (h : DataW.trod enc P W base (fun _ => true) held fuel s [.slice a len cap] = some x) :
    ∃ cs, ∃ as : List ActV, Rd W 6 a len cap cs ∧ as.length = len ∧ len ≤ bulk x.1 ∧ ∀ j y, as[j]? = some y → ActAt W (bulk x.1) cs (j * 6) y := by
  obtain ⟨cs, h1, h2, h3⟩ := rd_of_rows hs hc (by omega) h
  obtain ⟨f, hf⟩ := Deep.choose_lt (α := ActV) (n := len) (p := fun i y => ActAt W (bulk x.1) cs (i * 6) y) (fun i hi' => by
    obtain ⟨cs', f, y, e, sp, h4, h5, h6, h7, h8⟩ := h3 i hi'
    obtain ⟨-, z, hz⟩ := rd_of_act bulk hagg hln ht hf hc hu hcu hi hci hb hcb hk hck hbt hcbt h6
    exact ⟨z, (hz.move h5).le (by rw [h7]; exact hsl _ _ _ h8)⟩)
  refine ⟨cs, (List.range len).map f, h1, by simp, ?_, fun j x hx => ?_⟩
  · rcases h2 with h2 | ⟨e, sp, h4, h5⟩
    · omega
    · rw [h4, ← h5]; exact hln _ _
  · obtain ⟨hj, rfl⟩ : j < len ∧ f j = x := by
      rw [List.getElem?_map] at hx
      obtain ⟨y, hy, rfl⟩ := Option.map_eq_some_iff.1 hx
      obtain ⟨h1, h2⟩ := List.getElem?_eq_some_iff.1 hy
      simp at h1 h2
      subst h2
      exact ⟨h1, rfl⟩
    exact hf j hj
end
end Go.Proofs.YtaegjjaabeakoaaDoor
