/-
  What a struct, or an array, that came in reads as, leaf by leaf. Nothing of the program stands here.
  What an argument that is a slice of structs reads as, leaf by leaf; slices of bools, of bytes, of a number and bytes. Nothing of the program stands here.
  What an argument that is a slice of slices of bytes reads as. Nothing of the program stands here.
  A slice of structs of six (a byte, a number, bytes, a number, a byte, bools) that came in, with what its bulk bounds. Nothing of the program stands here.
  the list of acts (of disks, of stores).
  Contract of SameBytes.
  SameBytes over entries.
-/
import Derived.Test.YtdnioigcgggdbaaGreatDoorMap
import Derived.Deep.Slices
import Derived.WideShapes
import Derived.Test.YtdnioigcgggdbaaGreatDoorMac
import Derived.Test.YtdnioigcgggdbaaGreatDoorProg
import Derived.Test.YtdnioigcgggdbaaGreatDoorMaa
set_option linter.unusedVariables false
set_option linter.unusedSimpArgs false
namespace Go.Proofs.YtdnioigcgggdbaaGreatDoor
open Go.RowKit Go.ChangeShapes Go.WideShapes

/-- the types of a type's cells, where each leaf is one cell. -/
def leaves (P : Program) : Nat → TypeId → Option (List TypeId)
  | 0, _ => none
  | n + 1, t =>
    match P.underlying t with
    | some (.struct fs) => (fs.toList.foldlM (fun (acc : List TypeId) f => (leaves P n f.type).bind fun l => if f.offset = acc.length ∧ l.length = P.cellsOf f.type then some (acc ++ l) else none) []).bind fun l => if l.length = P.cellsOf t then some l else none
    | some (.array k e) => (leaves P n e).bind fun l => if l.length = P.cellsOf e ∧ P.cellsOf t = k * l.length then some (List.replicate k l).flatten else none
    | some _ => if P.cellsOf t = 1 then some [t] else none
    | none => none

section
variable {H : Type} {enc : TypeId × Value → H} {P : Program} {w : World} {base : Nat} {spare : Nat → Bool} {held : Bool}
/-- cell i reads as a leaf of type T. -/
def LeafAt (enc : TypeId × Value → H) (P : Program) (w : World) (base : Nat) (spare : Nat → Bool) (held : Bool) (cs : List Value) (i : Nat) (T : TypeId) : Prop :=
  ∃ c f y, cs[i]? = some c ∧ DataW.trod enc P w base spare held f T [c] = some y
theorem trod_len {t : TypeId} {fuel : Nat} {cs : List Value} {x : DataW H × List MemPlace} (h1 : P.cellsOf t = 1) (h : DataW.trod enc P w base spare held fuel t cs = some x) : cs.length = 1 := by
  cases fuel with
  | zero => simp [DataW.trod] at h
  | succ n =>
    unfold DataW.trod at h
    split at h <;> first | rfl | (cases h; done) | (rename_i hc _; split at h; (rename_i he; rw [h1] at he; exact he); cases h) | (split at h; (rename_i he; rw [h1] at he; exact he); cases h)
theorem leaves_spec : ∀ (n : Nat) {t : TypeId} {l : List TypeId} {fuel : Nat} {cs : List Value} {x : DataW H × List MemPlace}, leaves P n t = some l → DataW.trod enc P w base spare held fuel t cs = some x →
    cs.length = l.length ∧ ∀ i T, l[i]? = some T → LeafAt enc P w base spare held cs i T
  | 0, _, _, _, _, _, hl, _ => by simp [leaves] at hl
  | n + 1, t, l, fuel, cs, x, hl, h => by
    unfold leaves at hl
    split at hl
    · rename_i fs hu
      obtain ⟨xs, m, -, -, hlen, hxl, hf⟩ := DataW.trod_struct hu h
      obtain ⟨l', h1, h2⟩ := Option.bind_eq_some_iff.1 hl
      split at h2
      · rename_i hle
        cases h2
        refine ⟨by rw [hlen, hle], ?_⟩
        -- the fold
        have key : ∀ (gs : List Field) (k : Nat) (acc l : List TypeId), (∀ i f, gs[i]? = some f → fs[k + i]? = some f) → (∀ i T, acc[i]? = some T → LeafAt enc P w base spare held cs i T) →
            gs.foldlM (fun (acc : List TypeId) f => (leaves P n f.type).bind fun l => if f.offset = acc.length ∧ l.length = P.cellsOf f.type then some (acc ++ l) else none) acc = some l → ∀ i T, l[i]? = some T → LeafAt enc P w base spare held cs i T := by
          intro gs
          induction gs with
          | nil => intro k acc l _ ha h i T; simp at h; subst h; exact ha i T
          | cons g gs ih =>
            intro k acc l hg ha h
            rw [List.foldlM_cons] at h
            obtain ⟨acc', h3, h4⟩ := Option.bind_eq_some_iff.1 h
            obtain ⟨lg, h5, h6⟩ := Option.bind_eq_some_iff.1 h3
            split at h6
            · rename_i ho
              cases h6
              refine ih (k + 1) _ l (fun i f hi => by have := hg (i + 1) f (by simpa using hi); rwa [Nat.add_assoc, Nat.add_comm 1 i]) ?_ h4
              intro i T hi
              rw [List.getElem?_append] at hi
              split at hi
              · exact ha i T hi
              · rename_i hge
                have hfk := hg 0 g rfl
                have h7 := hf (k + 0) g hfk
                have hk : k + 0 < fs.size := (Array.getElem?_eq_some_iff.1 hfk).1
                rw [List.getElem?_eq_getElem (by rw [hxl]; exact hk)] at h7
                obtain ⟨h8, h9⟩ := leaves_spec n h5 h7
                obtain ⟨c, f, y, hc, hy⟩ := h9 _ T hi
                refine ⟨c, f, y, ?_, hy⟩
                rw [List.getElem?_take, List.getElem?_drop] at hc
                split at hc
                · rw [← hc]; congr 1; omega
                · cases hc
            · cases h6
        exact key fs.toList 0 [] _ (fun i f hi => by simpa using hi) (by simp) h1
      · cases h2
    · rename_i k e hu
      obtain ⟨xs, m, -, -, hlen, hxl, hel⟩ := DataW.trod_array hu h
      obtain ⟨l', h1, h2⟩ := Option.bind_eq_some_iff.1 hl
      split at h2
      · rename_i hle
        cases h2
        obtain ⟨he, hk⟩ := hle
        have hfl : ∀ k : Nat, (List.replicate k l').flatten.length = k * l'.length := fun k => by induction k with
          | zero => simp
          | succ k ih => rw [List.replicate_succ, List.flatten_cons, List.length_append, ih, Nat.succ_mul]; omega
        refine ⟨by rw [hlen, hk, hfl], fun i T hi => ?_⟩
        have hrep : ∀ (k i : Nat) (T : TypeId), (List.replicate k l').flatten[i]? = some T → ∃ q r, q < k ∧ r < l'.length ∧ i = q * l'.length + r ∧ l'[r]? = some T := by
          intro k
          induction k with
          | zero => intro i T h; simp at h
          | succ k ih =>
            intro i T h
            rw [List.replicate_succ, List.flatten_cons, List.getElem?_append] at h
            split at h
            · rename_i hlt; exact ⟨0, i, by omega, hlt, by omega, h⟩
            · rename_i hge
              obtain ⟨q, r, h1, h2, h3, h4⟩ := ih _ T h
              exact ⟨q + 1, r, by omega, h2, by rw [Nat.succ_mul]; omega, h4⟩
        obtain ⟨q, r, h3, h4, rfl, h5⟩ := hrep k i T hi
        have h6 := hel q h3
        rw [List.getElem?_eq_getElem (by rw [hxl]; exact h3)] at h6
        obtain ⟨h8, h9⟩ := leaves_spec n h1 h6
        obtain ⟨c, f, y, hc, hy⟩ := h9 r T h5
        refine ⟨c, f, y, ?_, hy⟩
        rw [List.getElem?_take, List.getElem?_drop] at hc
        split at hc
        · rw [← hc, he]
        · cases hc
      · cases h2
    · split at hl
      · rename_i h1
        cases hl
        have := trod_len h1 h
        refine ⟨this, fun i T hi => ?_⟩
        match cs, this with
        | [c], _ =>
          match i with
          | 0 => simp at hi; subst hi; exact ⟨c, fuel, x, rfl, h⟩
          | i + 1 => simp at hi
      · cases hl
    · cases hl
end
end Go.Proofs.YtdnioigcgggdbaaGreatDoor
namespace Go.Proofs.YtdnioigcgggdbaaGreatDoor
open Go.RowKit Go.ChangeShapes Go.WideShapes

section
variable {H : Type} {enc : TypeId × Value → H} {P : Program} {W : World} {base : Nat} {spare : Nat → Bool} {held : Bool}
/-- A slice of structs, or arrays, each leaf of which is one cell. -/
theorem rd_of_structs {t s : TypeId} {n fl fuel : Nat} {ls : List TypeId} {a : Option Addr} {len cap : Nat} {x : DataW H × List MemPlace} (hs : P.underlying s = some (.slice t)) (hl : leaves P fl t = some ls) (hn : ls.length = n) (hc : P.cellsOf t = n) (h0 : 0 < n)
    (h : DataW.trod enc P W base (fun _ => true) held fuel s [.slice a len cap] = some x) :
    ∃ cs, Rd W n a len cap cs ∧ ∀ i j T, i < len → ls[j]? = some T → ∃ c f y, cs[i * n + j]? = some c ∧ DataW.trod enc P W base (fun _ => true) held f T [c] = some y := by
  rcases Deep.open_slice hs h with ⟨hcs, _⟩ | ⟨ad, len', cap', m, k, D, Pl, hcs, hb, hle, hm, hmm, hx, hel⟩
  · simp at hcs
    obtain ⟨rfl, rfl, rfl⟩ := hcs
    exact ⟨[], Rd.nil_ _ _, fun i j T hi => by omega⟩
  · simp at hcs
    obtain ⟨rfl, rfl, rfl⟩ := hcs
    simp only [↓reduceIte] at hmm
    subst hmm
    rw [hc] at hel
    obtain ⟨f, hf⟩ := Deep.choose_lt (α := List Value) (n := m) (p := fun i l => l.length = n ∧ (∀ j, j < n → W.cell? (ad.add (i * n + j)) = l[j]?) ∧ ∀ j T, ls[j]? = some T → LeafAt enc P W base (fun _ => true) held l j T) (fun i hi => by
      obtain ⟨cs', h1, h2⟩ := hel i hi
      obtain ⟨h3, h4⟩ := leaves_spec fl hl h2
      refine ⟨cs', by rw [h3, hn], fun j hj => ?_, h4⟩
      obtain ⟨_, _, h5⟩ := World.cells?_some h1
      rw [← Deep.add_add, h5 j hj])
    have cell : ∀ j, j < m * n → ∃ b : Value, W.cell? (ad.add j) = some b := fun j hj => by
      have hq : j / n < m := Nat.div_lt_of_lt_mul (by rw [Nat.mul_comm]; exact hj)
      have hr := Nat.mod_lt j h0
      obtain ⟨h1, h2, -⟩ := hf _ hq
      have h3 := h2 _ hr
      rw [Nat.div_add_mod'] at h3
      exact ⟨_, by rw [h3, List.getElem?_eq_getElem (by omega)]⟩
    obtain ⟨g, hg⟩ := Deep.choose_lt (α := Value) (p := fun j b => W.cell? (ad.add j) = some b) cell
    have hle2 : len * n ≤ m * n := Nat.mul_le_mul_right _ hle
    refine ⟨(List.range (len * n)).map g, ⟨hle, hm, by simp, (fun h => by cases h), fun hp => ?_⟩, ?_⟩
    · have hp' : 0 < len * n := Nat.mul_pos hp h0
      obtain ⟨b, o, spot⟩ := ad
      have hspot : spot = none := by simpa [Addr.add] using World.cell?_spot (hg 0 (by omega))
      subst hspot
      refine ⟨b, o, rfl, fun j hj => ?_⟩
      rw [← Go.WideShapes.add_plain, hg j (by omega), List.getElem?_map, List.getElem?_range hj]
      rfl
    · intro i j T hi hj
      obtain ⟨h1, h2, h3⟩ := hf i (by omega)
      have hjn : j < n := by rw [← hn]; exact (List.getElem?_eq_some_iff.1 hj).1
      obtain ⟨c, f', y, h4, h5⟩ := h3 j T hj
      have hlt : i * n + j < len * n := by
        have : (i + 1) * n ≤ len * n := Nat.mul_le_mul_right _ hi
        rw [Nat.succ_mul] at this
        omega
      refine ⟨c, f', y, ?_, h5⟩
      rw [List.getElem?_map, List.getElem?_range hlt]
      have h6 := h2 j hjn
      rw [hg _ (by omega), h4] at h6
      exact h6
theorem rd_of_bytes {s e : TypeId} {fuel : Nat} {c : Value} {x : DataW H × List MemPlace} (hs : P.underlying s = some (.slice e)) (he : P.underlying e = some (.int .u8)) (hc : P.cellsOf e = 1)
    (h : DataW.trod enc P W base (fun _ => true) held fuel s [c] = some x) : ∃ B m k l, c = .slice B m k ∧ Rd W 1 B m k (bvs l) := by
  rcases open_ints hs he hc h with ⟨hcs, _⟩ | ⟨ad, l, k, zs, hcs, _, hl, hm, hz, _, hcell, hwz⟩
  · simp at hcs
    subst hcs
    exact ⟨none, 0, 0, [], rfl, Rd.nil_ _ _⟩
  · simp at hcs
    subst hcs
    obtain ⟨l', h'⟩ := rd_of_ints hl hm (by simpa using hz) hcell hwz
    exact ⟨_, _, _, l', rfl, h'⟩
/-- A slice of bools. -/
theorem rd_of_bools {s e : TypeId} {fuel : Nat} {a : Option Addr} {len cap : Nat} {x : DataW H × List MemPlace} (hs : P.underlying s = some (.slice e)) (he : P.underlying e = some .bool) (hc : P.cellsOf e = 1)
    (h : DataW.trod enc P W base (fun _ => true) held fuel s [.slice a len cap] = some x) : ∃ l : List Bool, Rd W 1 a len cap (l.map Value.bool) := by
  have hlv : leaves P 1 e = some [e] := by
    unfold leaves
    rw [he]
    simp [hc]
  obtain ⟨cs, h1, h2⟩ := rd_of_structs (n := 1) hs hlv rfl hc (by omega) h
  obtain ⟨f, hf⟩ := Deep.choose_lt (α := Bool) (n := len) (p := fun i b => cs[i]? = some (.bool b)) (fun i hi => by
    obtain ⟨c, f, y, h3, h4⟩ := h2 i 0 e hi rfl
    obtain ⟨b, h5, -⟩ := DataW.trod_bool he h4
    rw [Nat.mul_one, Nat.add_zero] at h3
    refine ⟨b, ?_⟩
    rw [h3]
    simpa using h5)
  have hlen := h1.len
  have e : cs = ((List.range len).map f).map Value.bool := by
    apply List.ext_getElem?
    intro i
    by_cases hi : i < len
    · rw [hf i hi, List.getElem?_map, List.getElem?_map, List.getElem?_range hi]; rfl
    · rw [List.getElem?_eq_none (by omega), List.getElem?_eq_none (by simp; omega)]
  exact ⟨_, e ▸ h1⟩
end
end Go.Proofs.YtdnioigcgggdbaaGreatDoor
namespace Go.Proofs.YtdnioigcgggdbaaGreatDoor
open Go.RowKit Go.ChangeShapes Go.WideShapes

section
variable {H : Type} {enc : TypeId × Value → H} {P : Program} {W : World} {base : Nat} {held : Bool}
end
end Go.Proofs.YtdnioigcgggdbaaGreatDoor
namespace Go.Proofs.YtdnioigcgggdbaaGreatDoor
open Go.RowKit Go.ChangeShapes Go.WideShapes

structure ActV where
  K : UInt8
  N : Int
  b : List UInt8
  M : Int
  Y : UInt8
  kept : List Bool
  deriving Inhabited
/-- the cells of one, from the j-th on. -/
structure ActAt (W : World) (B : Nat) (cs : List Value) (j : Nat) (x : ActV) : Prop where
  k0 : cs[j]? = some (.int .u8 ((x.K.toNat : Nat) : Int))
  k1 : cs[j + 1]? = some (.int .i64 x.N)
  w1 : (Lit.int .i64 x.N).wf = true
  k2 : ∃ A m c, cs[j + 2]? = some (.slice A m c) ∧ Rd W 1 A m c (bvs x.b)
  l2 : x.b.length ≤ B
  k3 : cs[j + 3]? = some (.int .i64 x.M)
  w3 : (Lit.int .i64 x.M).wf = true
  k4 : cs[j + 4]? = some (.int .u8 ((x.Y.toNat : Nat) : Int))
  k5 : ∃ A m c, cs[j + 5]? = some (.slice A m c) ∧ Rd W 1 A m c (x.kept.map Value.bool)
  l5 : x.kept.length ≤ B
section
variable {H : Type} {enc : TypeId × Value → H} {P : Program} {W : World} {base : Nat} {held : Bool}
theorem rd_of_rows {t s : TypeId} {n fuel : Nat} {a : Option Addr} {len cap : Nat} {x : DataW H × List MemPlace} (hs : P.underlying s = some (.slice t)) (hc : P.cellsOf t = n) (h0 : 0 < n)
    (h : DataW.trod enc P W base (fun _ => true) held fuel s [.slice a len cap] = some x) :
    ∃ cs, Rd W n a len cap cs ∧ (len = 0 ∨ ∃ e sp, x.1 = .slice e sp ∧ e.length = len) ∧ ∀ i, i < len → ∃ cs' f y e sp, cs'.length = n ∧ (∀ j, j < n → cs[i * n + j]? = cs'[j]?) ∧ DataW.trod enc P W base (fun _ => true) held f t cs' = some y ∧ x.1 = .slice e sp ∧ y.1 ∈ e := by
  rcases Deep.open_slice hs h with ⟨hcs, _⟩ | ⟨ad, len', cap', m, k, D, Pl, hcs, hb, hle, hm, hmm, hx, hel⟩
  · simp at hcs
    obtain ⟨rfl, rfl, rfl⟩ := hcs
    exact ⟨[], Rd.nil_ _ _, .inl rfl, fun i hi => by omega⟩
  · simp at hcs
    obtain ⟨rfl, rfl, rfl⟩ := hcs
    simp only [↓reduceIte] at hmm
    subst hmm
    rw [hc] at hel
    obtain ⟨f, hf⟩ := Deep.choose_lt (α := List Value) (n := m) (p := fun i l => l.length = n ∧ (∀ j, j < n → W.cell? (ad.add (i * n + j)) = l[j]?) ∧ DataW.trod enc P W base (fun _ => true) held k t l = some (D i, Pl i)) (fun i hi => by
      obtain ⟨cs', h1, h2⟩ := hel i hi
      obtain ⟨_, hl, h5⟩ := World.cells?_some h1
      refine ⟨cs', hl, fun j hj => ?_, h2⟩
      rw [← Deep.add_add, h5 j hj])
    have cell : ∀ j, j < m * n → ∃ b : Value, W.cell? (ad.add j) = some b := fun j hj => by
      have hq : j / n < m := Nat.div_lt_of_lt_mul (by rw [Nat.mul_comm]; exact hj)
      have hr := Nat.mod_lt j h0
      obtain ⟨h1, h2, -⟩ := hf _ hq
      have h3 := h2 _ hr
      rw [Nat.div_add_mod'] at h3
      exact ⟨_, by rw [h3, List.getElem?_eq_getElem (by omega)]⟩
    obtain ⟨g, hg⟩ := Deep.choose_lt (α := Value) (p := fun j b => W.cell? (ad.add j) = some b) cell
    have hle2 : len * n ≤ m * n := Nat.mul_le_mul_right _ hle
    refine ⟨(List.range (len * n)).map g, ⟨hle, hm, by simp, (fun h => by cases h), fun hp => ?_⟩, .inr ⟨_, _, by rw [hx], by simp⟩, ?_⟩
    · have hp' : 0 < len * n := Nat.mul_pos hp h0
      obtain ⟨b, o, spot⟩ := ad
      have hspot : spot = none := by simpa [Addr.add] using World.cell?_spot (hg 0 (by omega))
      subst hspot
      refine ⟨b, o, rfl, fun j hj => ?_⟩
      rw [← Go.WideShapes.add_plain, hg j (by omega), List.getElem?_map, List.getElem?_range hj]
      rfl
    · intro i hi
      obtain ⟨h1, h2, h3⟩ := hf i (by omega)
      refine ⟨f i, k, (D i, Pl i), _, _, h1, fun j hjn => ?_, h3, by rw [hx], List.mem_map.2 ⟨i, by simpa using hi, rfl⟩⟩
      have hlt : i * n + j < len * n := by
        have : (i + 1) * n ≤ len * n := Nat.mul_le_mul_right _ hi
        rw [Nat.succ_mul] at this
        omega
      rw [List.getElem?_map, List.getElem?_range hlt]
      have h6 := h2 j hjn
      rw [hg _ (by omega)] at h6
      exact h6
theorem rd_of_act {t u it bs ks bt : TypeId} {fs : Array Field} {fuel : Nat} {cs : List Value} {x : DataW H × List MemPlace} (bulk : DataW H → Nat) (hagg : ∀ l d, d ∈ l → bulk d ≤ bulk (.agg l)) (hln : ∀ e sp, e.length ≤ bulk (.slice e sp))
    (ht : P.underlying t = some (.struct fs)) (hf : fs.toList.map (fun f => (f.offset, f.type)) = [(0, u), (1, it), (2, bs), (3, it), (4, u), (5, ks)]) (hc : P.cellsOf t = 6)
    (hu : P.underlying u = some (.int .u8)) (hcu : P.cellsOf u = 1) (hi : P.underlying it = some (.int .i64)) (hci : P.cellsOf it = 1) (hb : P.underlying bs = some (.slice u)) (hcb : P.cellsOf bs = 1)
    (hk : P.underlying ks = some (.slice bt)) (hck : P.cellsOf ks = 1) (hbt : P.underlying bt = some .bool) (hcbt : P.cellsOf bt = 1)
    (h : DataW.trod enc P W base (fun _ => true) held fuel t cs = some x) : cs.length = 6 ∧ ∃ y, ActAt W (bulk x.1) cs 0 y := by
  obtain ⟨xs, n, -, rfl, hl, hxl, hfs⟩ := DataW.trod_struct ht h
  rw [hc] at hl
  have hsz : fs.size = 6 := by
    have := congrArg List.length hf
    simpa using this
  rw [hsz] at hxl
  have H : ∀ (j : Nat) (T : TypeId) (o : Nat), [(0, u), (1, it), (2, bs), (3, it), (4, u), (5, ks)][j]? = some (o, T) → P.cellsOf T = 1 → o = j → j < 6 → ∃ c y, cs[j]? = some c ∧ y.1 ∈ xs.map (·.1) ∧ DataW.trod enc P W base (fun _ => true) held n T [c] = some y := by
    intro j T o hj hT ho hj6
    subst ho
    rw [← hf, List.getElem?_map] at hj
    obtain ⟨f, h1, h2⟩ := Option.map_eq_some_iff.1 hj
    have h3 := hfs o f (by simpa using h1)
    have h4 : f.type = T := (Prod.ext_iff.1 h2).2
    have h5 : f.offset = o := (Prod.ext_iff.1 h2).1
    rw [h4, h5, hT] at h3
    obtain ⟨y, hy⟩ : ∃ y, xs[o]? = some y := ⟨_, List.getElem?_eq_getElem (by omega)⟩
    obtain ⟨c, hc0⟩ : ∃ c, cs[o]? = some c := ⟨_, List.getElem?_eq_getElem (by omega)⟩
    have h6 : (cs.drop o).take 1 = [c] := by
      obtain ⟨h7, h8⟩ := List.getElem?_eq_some_iff.1 hc0
      rw [List.drop_eq_getElem_cons h7, h8]
      rfl
    rw [h6, hy] at h3
    exact ⟨c, y, hc0, List.mem_map.2 ⟨y, List.mem_of_getElem? hy, rfl⟩, h3⟩
  obtain ⟨c0, y0, e0, -, t0⟩ := H 0 u 0 rfl hcu rfl (by omega)
  obtain ⟨c1, y1, e1, -, t1⟩ := H 1 it 1 rfl hci rfl (by omega)
  obtain ⟨c2, y2, e2, m2, t2⟩ := H 2 bs 2 rfl hcb rfl (by omega)
  obtain ⟨c3, y3, e3, -, t3⟩ := H 3 it 3 rfl hci rfl (by omega)
  obtain ⟨c4, y4, e4, -, t4⟩ := H 4 u 4 rfl hcu rfl (by omega)
  obtain ⟨c5, y5, e5, m5, t5⟩ := H 5 ks 5 rfl hck rfl (by omega)
  obtain ⟨z0, a0, -, f0⟩ := DataW.trod_int hu t0
  obtain ⟨z1, a1, -, f1⟩ := DataW.trod_int hi t1
  obtain ⟨z3, a3, -, f3⟩ := DataW.trod_int hi t3
  obtain ⟨z4, a4, -, f4⟩ := DataW.trod_int hu t4
  obtain rfl : c0 = .int .u8 z0 := by simpa using a0
  obtain rfl : c1 = .int .i64 z1 := by simpa using a1
  obtain rfl : c3 = .int .i64 z3 := by simpa using a3
  obtain rfl : c4 = .int .u8 z4 := by simpa using a4
  have B2 : ∃ A m c l, c2 = .slice A m c ∧ Rd W 1 A m c (bvs l) ∧ l.length ≤ bulk y2.1 := by
    obtain ⟨B, m, k, l, rfl, hr⟩ := rd_of_bytes hb hu hcu t2
    have hl := hr.blen
    rcases Deep.open_slice hb t2 with ⟨hcs, _⟩ | ⟨ad, len', cap', m', k', D, Pl, hcs, -, -, -, -, hx, -⟩
    · simp at hcs
      obtain ⟨rfl, rfl, rfl⟩ := hcs
      exact ⟨_, _, _, l, rfl, hr, by omega⟩
    · simp at hcs
      obtain ⟨rfl, rfl, rfl⟩ := hcs
      refine ⟨_, _, _, l, rfl, hr, ?_⟩
      rw [hx]
      have := hln ((List.range m).map D) ((List.range (m' - m)).map fun j => D (m + j))
      simp at this
      simp only
      omega
  obtain ⟨A2, m2', k2, l2, rfl, r2, b2⟩ := B2
  have B5 : ∃ A m c, ∃ l : List Bool, c5 = .slice A m c ∧ Rd W 1 A m c (l.map Value.bool) ∧ l.length ≤ bulk y5.1 := by
    rcases Deep.open_slice hk t5 with ⟨hcs, _⟩ | ⟨ad, len', cap', m', k', D, Pl, hcs, -, -, -, -, hx, -⟩
    · obtain rfl : c5 = .slice none 0 0 := by simpa using hcs
      exact ⟨none, 0, 0, [], rfl, Rd.nil_ _ _, by simp⟩
    · obtain rfl : c5 = .slice (some ad) len' cap' := by simpa using hcs
      obtain ⟨l, hr⟩ := rd_of_bools hk hbt hcbt t5
      have hl := hr.len
      rw [List.length_map] at hl
      refine ⟨_, _, _, l, rfl, hr, ?_⟩
      rw [hx]
      have := hln ((List.range len').map D) ((List.range (m' - len')).map fun j => D (len' + j))
      simp at this
      simp only
      omega
  obtain ⟨A5, m5', k5, l5, rfl, r5, b5⟩ := B5
  exact ⟨hl, ⟨UInt8.ofNat z0.toNat, z1, l2, z3, UInt8.ofNat z4.toNat, l5⟩, by rw [e0, u8_of_wf f0], e1, f1, ⟨_, _, _, e2, r2⟩, Nat.le_trans b2 (hagg _ _ m2), e3, f3, by rw [e4, u8_of_wf f4], ⟨_, _, _, e5, r5⟩, Nat.le_trans b5 (hagg _ _ m5)⟩
theorem ActAt.move {B : Nat} {cs cs' : List Value} {i : Nat} {y : ActV} (h : ActAt W B cs' 0 y) (hc : ∀ j, j < 6 → cs[i * 6 + j]? = cs'[j]?) : ActAt W B cs (i * 6) y := by
  have c0 := hc 0 (by omega)
  have c1 := hc 1 (by omega)
  have c2 := hc 2 (by omega)
  have c3 := hc 3 (by omega)
  have c4 := hc 4 (by omega)
  have c5 := hc 5 (by omega)
  obtain ⟨k0, k1, w1, k2, l2, k3, w3, k4, k5, l5⟩ := h
  simp only [Nat.zero_add, Nat.add_zero] at *
  exact ⟨by rw [c0, k0], by rw [c1, k1], w1, by rw [c2]; exact k2, l2, by rw [c3, k3], w3, by rw [c4, k4], by rw [c5]; exact k5, l5⟩
theorem ActAt.le {B B' : Nat} {cs : List Value} {i : Nat} {y : ActV} (h : ActAt W B cs i y) (hb : B ≤ B') : ActAt W B' cs i y := by
  obtain ⟨k0, k1, w1, k2, l2, k3, w3, k4, k5, l5⟩ := h
  exact ⟨k0, k1, w1, k2, by omega, k3, w3, k4, k5, by omega⟩
theorem rd_of_acts {s t u it bs ks bt : TypeId} {fs : Array Field} {fuel : Nat} {a : Option Addr} {len cap : Nat} {x : DataW H × List MemPlace} (bulk : DataW H → Nat) (hagg : ∀ l d, d ∈ l → bulk d ≤ bulk (.agg l)) (hsl : ∀ e sp d, d ∈ e → bulk d ≤ bulk (.slice e sp)) (hln : ∀ e sp, e.length ≤ bulk (.slice e sp))
    (hs : P.underlying s = some (.slice t)) (ht : P.underlying t = some (.struct fs)) (hf : fs.toList.map (fun f => (f.offset, f.type)) = [(0, u), (1, it), (2, bs), (3, it), (4, u), (5, ks)]) (hc : P.cellsOf t = 6)
    (hu : P.underlying u = some (.int .u8)) (hcu : P.cellsOf u = 1) (hi : P.underlying it = some (.int .i64)) (hci : P.cellsOf it = 1) (hb : P.underlying bs = some (.slice u)) (hcb : P.cellsOf bs = 1)
    (hk : P.underlying ks = some (.slice bt)) (hck : P.cellsOf ks = 1) (hbt : P.underlying bt = some .bool) (hcbt : P.cellsOf bt = 1)
    (h : DataW.trod enc P W base (fun _ => true) held fuel s [.slice a len cap] = some x) :
    ∃ cs, ∃ az : List ActV, Rd W 6 a len cap cs ∧ az.length = len ∧ len ≤ bulk x.1 ∧ ∀ j y, az[j]? = some y → ActAt W (bulk x.1) cs (j * 6) y := by
  obtain ⟨cs, h1, h2, h3⟩ := rd_of_rows hs hc (by omega) h
  obtain ⟨f, hf⟩ := Deep.choose_lt (α := ActV) (n := len) (p := fun i y => ActAt W (bulk x.1) cs (i * 6) y) (fun i hi' => by
    obtain ⟨cs', f, y, e, sp, h4, h5, h6, h7, h8⟩ := h3 i hi'
    obtain ⟨-, z, hz⟩ := rd_of_act bulk hagg hln ht hf hc hu hcu hi hci hb hcb hk hck hbt hcbt h6
    exact ⟨z, (hz.move h5).le (by rw [h7]; exact hsl _ _ _ h8)⟩)
  refine ⟨cs, (List.range len).map f, h1, by simp, ?_, fun j x hx => ?_⟩
  · rcases h2 with h2 | ⟨e, sp, h4, h5⟩
    · omega
    · rw [h4, ← h5]; exact hln _ _
  · obtain ⟨hj, rfl⟩ : j < len ∧ f j = x := by
      rw [List.getElem?_map] at hx
      obtain ⟨y, hy, rfl⟩ := Option.map_eq_some_iff.1 hx
      obtain ⟨h1, h2⟩ := List.getElem?_eq_some_iff.1 hy
      simp at h1 h2
      subst h2
      exact ⟨h1, rfl⟩
    exact hf j hj
end
end Go.Proofs.YtdnioigcgggdbaaGreatDoor
set_option linter.unusedVariables false
set_option linter.unusedSimpArgs false
namespace Go.Proofs.YtdnioigcgggdbaaGreatDoor
open Go.RowKit
structure ActG (B0 : Ent) (cs : List Value) (j : Nat) (x : ActV) : Prop where
  k0 : cs[j]? = some (.int .u8 ((x.K.toNat : Nat) : Int))
  k1 : cs[j + 1]? = some (.int .i64 x.N)
  w1 : (Lit.int .i64 x.N).wf = true
  k2 : ∃ A c, cs[j + 2]? = some (.slice A x.b.length c) ∧ ∀ L, B0 ∈ L → Gives L fun w => Rd w 1 A x.b.length c (bvs x.b)
  l2 : x.b.length ≤ 1048576
  k3 : cs[j + 3]? = some (.int .i64 x.M)
  w3 : (Lit.int .i64 x.M).wf = true
  k4 : cs[j + 4]? = some (.int .u8 ((x.Y.toNat : Nat) : Int))
  k5 : ∃ A c, cs[j + 5]? = some (.slice A x.kept.length c) ∧ ∀ L, B0 ∈ L → Gives L fun w => Rd w 1 A x.kept.length c (x.kept.map Value.bool)
  l5 : x.kept.length ≤ 1048576
structure RdA (B0 : Ent) (A : Option Addr) (n c : Nat) (cs : List Value) (acts : List ActV) : Prop where
  head : ∀ L, B0 ∈ L → Gives L fun w => Rd w 6 A n c cs
  len : acts.length = n
  n1 : n ≤ 1048576
  at_ : ∀ j y, acts[j]? = some y → ActG B0 cs (j * 6) y
theorem rdA_base {W0 : World} {A : Option Addr} {n c : Nat} {cs : List Value} {acts : List ActV} (hr : Rd W0 6 A n c cs) (hl : acts.length = n) (hn : n ≤ 1048576) {Bd : Nat} (hb : Bd ≤ 1048576) (hat : ∀ j y, acts[j]? = some y → ActAt W0 Bd cs (j * 6) y) : RdA (base W0) A n c cs acts :=
  ⟨fun L hm w H => hr.ext (H.all _ hm), hl, hn, fun j y hj => by
    obtain ⟨k0, k1, w1, ⟨A2, m2, c2, e2, r2⟩, l2, k3, w3, k4, ⟨A5, m5, c5, e5, r5⟩, l5⟩ := hat j y hj
    have h2 := r2.blen
    have h5 := r5.len
    rw [List.length_map, Nat.mul_one] at h5
    subst h2 h5
    exact ⟨k0, k1, w1, ⟨A2, c2, e2, fun L hm w H => r2.ext (H.all _ hm)⟩, by omega, k3, w3, k4, ⟨A5, c5, e5, fun L hm w H => r5.ext (H.all _ hm)⟩, by omega⟩⟩
section
variable {P : Program} {ops : Array Oper} {J : World → Prop} {a : Act} {dst : Option Tmp} {x y : Operand} {T T2 ty : TypeId} {pos : String} {after : Array Edge} {gd : Option (Nat × Bool)}
theorem yields_rem_quo {kd : IntKind} {X Z r : Int} (hw : Region.wanted ⟨dst, .binOp .quo T x y T2, ty, pos, after, gd⟩ (yielded ops a.tmps) = true) (hx : a.eval x = .int kd X) (hy : a.eval y = .int kd Z) (hz : Z ≠ 0) (hr : kd.wrap (X.tdiv Z) = r) :
    YieldsIf P ops J ⟨dst, .binOp .quo T x y T2, ty, pos, after, gd⟩ (.int kd r) a := .inl ⟨hw, fun w _ => by
  have hg : ∀ u v : Value, eqGuard .quo T x y u v = pure () := fun _ _ => rfl
  unfold execOp
  simp [hx, hy, binOp_quo, Op.intDiv, hz, hr, hg]⟩
end
end Go.Proofs.YtdnioigcgggdbaaGreatDoor
set_option linter.unusedVariables false
set_option linter.unusedSimpArgs false
namespace Go.Proofs.YtdnioigcgggdbaaGreatDoor
open Go.RowKit

theorem take_eq_step {l1 l2 : List UInt8} {k : Nat} (h1 : k < l1.length) (h2 : k < l2.length) (h : l1.take k = l2.take k) (he : l1[k]?.getD 0 = l2[k]?.getD 0) : l1.take (k + 1) = l2.take (k + 1) := by
  rw [List.take_add_one, List.take_add_one, h]
  rw [List.getElem?_eq_getElem h1, List.getElem?_eq_getElem h2] at he ⊢
  simp only [Option.getD_some] at he
  rw [he]
def SameP (l1 l2 : List UInt8) (w : World) (e : Ending) (w' : World) : Prop := e = .returned (.bool (decide (l1 = l2))) ∧ ∃ d, w' = w.drewN d
theorem sameP_no {l1 l2 : List UInt8} {w w' : World} {e : Ending} (h : l1 ≠ l2) (he : e = .returned (.bool false)) (hw : ∃ d, w' = w.drewN d) : SameP l1 l2 w e w' := by
  unfold SameP; rw [decide_eq_false h]; exact ⟨he, hw⟩
theorem sameP_yes {l1 l2 : List UInt8} {w w' : World} {e : Ending} (h : l1 = l2) (he : e = .returned (.bool true)) (hw : ∃ d, w' = w.drewN d) : SameP l1 l2 w e w' := by
  unfold SameP; rw [decide_eq_true h]; exact ⟨he, hw⟩

set_option maxHeartbeats 400000 in
theorem same_any (A1 : Option Addr) (n1 c1 : Nat) (l1 : List UInt8) (A2 : Option Addr) (n2 c2 : Nat) (l2 : List UInt8) (w : World) (h1 : Rd w 1 A1 n1 c1 (bvs l1)) (h2 : Rd w 1 A2 n2 c2 (bvs l2)) :
    Calls Tryz.prog 32 #[.slice A1 n1 c1, .slice A2 n2 c2] w (SameP l1 l2 w) := by
  have hl1 := h1.blen
  have hl2 := h2.blen
  have hc1 := h1.top
  have hn1 := h1.le
  unfold maxLen at hc1
  have Hl1 := Lib.hid hl1
  have Hl2 := Lib.hid hl2
  clear hl1 hl2
  by_cases hne : n1 = n2
  · subst hne
    go_enter Tryz.func32, Tryz.ntmps32
    go_wp2
    go_loopw [5] (fun i wr => ∃ k d : Nat, k ≤ n1 ∧ i = .int .i64 k ∧ wr = w.drewN d ∧ l1.take k = l2.take k) (fun i _ => n1 - (intOf i).toNat)
    case atStart => exact ⟨0, 0, Nat.zero_le _, rfl, rfl, rfl⟩
    case round =>
      obtain ⟨k, d, hk, rfl, rfl, ht⟩ := hrel
      have Ht := Lib.hid ht
      clear ht
      by_cases hlt : k < n1
      · obtain ⟨b1, o1, rfl, g1⟩ := h1.byte hlt
        obtain ⟨b2, o2, rfl, g2⟩ := h2.byte hlt
        have hst : l1[k]?.getD 0 = l2[k]?.getD 0 → l1.take (k + 1) = l2.take (k + 1) := fun he => take_eq_step (by have := Hl1.out; omega) (by have := Hl2.out; omega) Ht.out he
        have hst2 : l1[k]?.getD 0 ≠ l2[k]?.getD 0 → l1 ≠ l2 := fun he e => he (by rw [e])
        have Hst := Lib.hid hst
        have Hst2 := Lib.hid hst2
        clear hst hst2 h1 h2
        generalize l1[k]?.getD 0 = x1 at *
        generalize l2[k]?.getD 0 = x2 at *
        by_cases hx : x1 = x2
        · subst hx
          go_wp2
          go_quiet (fail)
          go_wp2
          go_roundw
          case rel => exact ⟨k + 1, _, by omega, by go_num, rfl, Hst.out (by first | rfl | trivial)⟩
          case measure => simp [intOf]; omega
        · have hxi : ((x1.toNat : Int) != (x2.toNat : Int)) = true := by rw [bne_iff_ne]; intro h; exact hx (UInt8.toNat.inj (by omega))
          go_wp2
          go_quiet (fail)
          go_wp2
          go_ret
          exact sameP_no (Hst2.out hx) rfl ⟨d + nq, by rw [World.drewN_drewN]⟩
      · obtain rfl : k = n1 := by omega
        go_wp2
        go_ret
        refine sameP_yes ?_ rfl ⟨d, rfl⟩
        have := Ht.out
        rwa [List.take_of_length_le (by have := Hl1.out; omega), List.take_of_length_le (by have := Hl2.out; omega)] at this
  · have hb : ((n1 : Int) != (n2 : Int)) = true := by rw [bne_iff_ne]; omega
    go_enter Tryz.func32, Tryz.ntmps32
    go_wp2
    go_ret
    refine sameP_no (fun e => hne ?_) rfl ⟨0, rfl⟩
    rw [← Hl1.out, ← Hl2.out, e]
end Go.Proofs.YtdnioigcgggdbaaGreatDoor
namespace Go.Proofs.YtdnioigcgggdbaaGreatDoor
open Go.RowKit

section
variable {W : World} {L L' L0 : List Ent} {R : Ending → World → Prop}
theorem same_k {A1 A2 : Option Addr} {n1 c1 n2 c2 : Nat} {l1 l2 : List UInt8} (h1 : Gives L fun w => Rd w 1 A1 n1 c1 (bvs l1)) (h2 : Gives L fun w => Rd w 1 A2 n2 c2 (bvs l2)) (H : Holds W L) (k : ∀ w', Holds w' L → R (.returned (.bool (decide (l1 = l2)))) w') :
    Calls Tryz.prog 32 #[.slice A1 n1 c1, .slice A2 n2 c2] W R := by
  refine (same_any A1 n1 c1 l1 A2 n2 c2 l2 W (h1 W H) (h2 W H)).mono fun e w' h => ?_
  obtain ⟨he, d, rfl⟩ := h
  rw [he]
  exact k _ (H.drewN d)
end
end Go.Proofs.YtdnioigcgggdbaaGreatDoor
