/-
  What a struct, or an array, that came in reads as, leaf by leaf. Nothing of the program stands here.
  What an argument that is a slice of structs reads as, leaf by leaf; slices of bools, of bytes, of a number and bytes. Nothing of the program stands here.
  What an argument that is a slice of slices of bytes reads as. Nothing of the program stands here.
-/
import Derived.Test.YtdnioigcgggdbaaOpN
import Derived.Deep.Slices
import Derived.WideShapes
set_option linter.unusedVariables false
set_option linter.unusedSimpArgs false
namespace Go.Proofs.Ytdnioigcgggdbaa
open Go.RowKit Go.ChangeShapes Go.WideShapes

/-- the types of a type's cells, where each leaf is one cell. -/
def leaves (P : Program) : Nat → TypeId → Option (List TypeId)
  | 0, _ => none
  | n + 1, t =>
    match P.underlying t with
    | some (.struct fs) => (fs.toList.foldlM (fun (acc : List TypeId) f => (leaves P n f.type).bind fun l => if f.offset = acc.length ∧ l.length = P.cellsOf f.type then some (acc ++ l) else none) []).bind fun l => if l.length = P.cellsOf t then some l else none
    | some (.array k e) => (leaves P n e).bind fun l => if l.length = P.cellsOf e ∧ P.cellsOf t = k * l.length then some (List.replicate k l).flatten else none
    | some _ => if P.cellsOf t = 1 then some [t] else none
    | none => none

section
variable {H : Type} {enc : TypeId × Value → H} {P : Program} {w : World} {base : Nat} {spare : Nat → Bool} {held : Bool}
/-- cell i reads as a leaf of type T. -/
def LeafAt (enc : TypeId × Value → H) (P : Program) (w : World) (base : Nat) (spare : Nat → Bool) (held : Bool) (cs : List Value) (i : Nat) (T : TypeId) : Prop :=
  ∃ c f y, cs[i]? = some c ∧ DataW.trod enc P w base spare held f T [c] = some y
theorem trod_len {t : TypeId} {fuel : Nat} {cs : List Value} {x : DataW H × List MemPlace} (h1 : P.cellsOf t = 1) (h : DataW.trod enc P w base spare held fuel t cs = some x) : cs.length = 1 := by
  cases fuel with
  | zero => simp [DataW.trod] at h
  | succ n =>
    unfold DataW.trod at h
    split at h <;> first | rfl | (cases h; done) | (rename_i hc _; split at h; (rename_i he; rw [h1] at he; exact he); cases h) | (split at h; (rename_i he; rw [h1] at he; exact he); cases h)
theorem leaves_spec : ∀ (n : Nat) {t : TypeId} {l : List TypeId} {fuel : Nat} {cs : List Value} {x : DataW H × List MemPlace}, leaves P n t = some l → DataW.trod enc P w base spare held fuel t cs = some x →
    cs.length = l.length ∧ ∀ i T, l[i]? = some T → LeafAt enc P w base spare held cs i T
  | 0, _, _, _, _, _, hl, _ => by simp [leaves] at hl
  | n + 1, t, l, fuel, cs, x, hl, h => by
    unfold leaves at hl
    split at hl
    · rename_i fs hu
      obtain ⟨xs, m, -, -, hlen, hxl, hf⟩ := DataW.trod_struct hu h
      obtain ⟨l', h1, h2⟩ := Option.bind_eq_some_iff.1 hl
      split at h2
      · rename_i hle
        cases h2
        refine ⟨by rw [hlen, hle], ?_⟩
        -- the fold
        have key : ∀ (gs : List Field) (k : Nat) (acc l : List TypeId), (∀ i f, gs[i]? = some f → fs[k + i]? = some f) → (∀ i T, acc[i]? = some T → LeafAt enc P w base spare held cs i T) →
            gs.foldlM (fun (acc : List TypeId) f => (leaves P n f.type).bind fun l => if f.offset = acc.length ∧ l.length = P.cellsOf f.type then some (acc ++ l) else none) acc = some l → ∀ i T, l[i]? = some T → LeafAt enc P w base spare held cs i T := by
          intro gs
          induction gs with
          | nil => intro k acc l _ ha h i T; simp at h; subst h; exact ha i T
          | cons g gs ih =>
            intro k acc l hg ha h
            rw [List.foldlM_cons] at h
            obtain ⟨acc', h3, h4⟩ := Option.bind_eq_some_iff.1 h
            obtain ⟨lg, h5, h6⟩ := Option.bind_eq_some_iff.1 h3
            split at h6
            · rename_i ho
              cases h6
              refine ih (k + 1) _ l (fun i f hi => by have := hg (i + 1) f (by simpa using hi); rwa [Nat.add_assoc, Nat.add_comm 1 i]) ?_ h4
              intro i T hi
              rw [List.getElem?_append] at hi
              split at hi
              · exact ha i T hi
              · rename_i hge
                have hfk := hg 0 g rfl
                have h7 := hf (k + 0) g hfk
                have hk : k + 0 < fs.size := (Array.getElem?_eq_some_iff.1 hfk).1
                rw [List.getElem?_eq_getElem (by rw [hxl]; exact hk)] at h7
                obtain ⟨h8, h9⟩ := leaves_spec n h5 h7
                obtain ⟨c, f, y, hc, hy⟩ := h9 _ T hi
                refine ⟨c, f, y, ?_, hy⟩
                rw [List.getElem?_take, List.getElem?_drop] at hc
                split at hc
                · rw [← hc]; congr 1; omega
                · cases hc
            · cases h6
        exact key fs.toList 0 [] _ (fun i f hi => by simpa using hi) (by simp) h1
      · cases h2
    · rename_i k e hu
      obtain ⟨xs, m, -, -, hlen, hxl, hel⟩ := DataW.trod_array hu h
      obtain ⟨l', h1, h2⟩ := Option.bind_eq_some_iff.1 hl
      split at h2
      · rename_i hle
        cases h2
        obtain ⟨he, hk⟩ := hle
        have hfl : ∀ k : Nat, (List.replicate k l').flatten.length = k * l'.length := fun k => by induction k with
          | zero => simp
          | succ k ih => rw [List.replicate_succ, List.flatten_cons, List.length_append, ih, Nat.succ_mul]; omega
        refine ⟨by rw [hlen, hk, hfl], fun i T hi => ?_⟩
        have hrep : ∀ (k i : Nat) (T : TypeId), (List.replicate k l').flatten[i]? = some T → ∃ q r, q < k ∧ r < l'.length ∧ i = q * l'.length + r ∧ l'[r]? = some T := by
          intro k
          induction k with
          | zero => intro i T h; simp at h
          | succ k ih =>
            intro i T h
            rw [List.replicate_succ, List.flatten_cons, List.getElem?_append] at h
            split at h
            · rename_i hlt; exact ⟨0, i, by omega, hlt, by omega, h⟩
            · rename_i hge
              obtain ⟨q, r, h1, h2, h3, h4⟩ := ih _ T h
              exact ⟨q + 1, r, by omega, h2, by rw [Nat.succ_mul]; omega, h4⟩
        obtain ⟨q, r, h3, h4, rfl, h5⟩ := hrep k i T hi
        have h6 := hel q h3
        rw [List.getElem?_eq_getElem (by rw [hxl]; exact h3)] at h6
        obtain ⟨h8, h9⟩ := leaves_spec n h1 h6
        obtain ⟨c, f, y, hc, hy⟩ := h9 r T h5
        refine ⟨c, f, y, ?_, hy⟩
        rw [List.getElem?_take, List.getElem?_drop] at hc
        split at hc
        · rw [← hc, he]
        · cases hc
      · cases h2
    · split at hl
      · rename_i h1
        cases hl
        have := trod_len h1 h
        refine ⟨this, fun i T hi => ?_⟩
        match cs, this with
        | [c], _ =>
          match i with
          | 0 => simp at hi; subst hi; exact ⟨c, fuel, x, rfl, h⟩
          | i + 1 => simp at hi
      · cases hl
    · cases hl
end
end Go.Proofs.Ytdnioigcgggdbaa
namespace Go.Proofs.Ytdnioigcgggdbaa
open Go.RowKit Go.ChangeShapes Go.WideShapes

section
variable {H : Type} {enc : TypeId × Value → H} {P : Program} {W : World} {base : Nat} {spare : Nat → Bool} {held : Bool}
theorem okWide_array {t e : TypeId} {n : Nat} {r : Reach} {v : Value} (ht : P.underlying t = some (.array n e)) (h : Value.okWide P W r base t v) : ∃ cs, v = .agg cs ∧ cs.size = P.cellsOf t := by
  simp only [Value.okWide, ht] at h
  obtain ⟨cs, h1, h2, _⟩ := h
  exact ⟨cs, h1, h2⟩
/-- A slice of structs, or arrays, each leaf of which is one cell. -/
theorem rd_of_structs {t s : TypeId} {n fl fuel : Nat} {ls : List TypeId} {a : Option Addr} {len cap : Nat} {x : DataW H × List MemPlace} (hs : P.underlying s = some (.slice t)) (hl : leaves P fl t = some ls) (hn : ls.length = n) (hc : P.cellsOf t = n) (h0 : 0 < n)
    (h : DataW.trod enc P W base (fun _ => true) held fuel s [.slice a len cap] = some x) :
    ∃ cs, Rd W n a len cap cs ∧ ∀ i j T, i < len → ls[j]? = some T → ∃ c f y, cs[i * n + j]? = some c ∧ DataW.trod enc P W base (fun _ => true) held f T [c] = some y := by
  rcases Deep.open_slice hs h with ⟨hcs, _⟩ | ⟨ad, len', cap', m, k, D, Pl, hcs, hb, hle, hm, hmm, hx, hel⟩
  · simp at hcs
    obtain ⟨rfl, rfl, rfl⟩ := hcs
    exact ⟨[], Rd.nil_ _ _, fun i j T hi => by omega⟩
  · simp at hcs
    obtain ⟨rfl, rfl, rfl⟩ := hcs
    simp only [↓reduceIte] at hmm
    subst hmm
    rw [hc] at hel
    obtain ⟨f, hf⟩ := Deep.choose_lt (α := List Value) (n := m) (p := fun i l => l.length = n ∧ (∀ j, j < n → W.cell? (ad.add (i * n + j)) = l[j]?) ∧ ∀ j T, ls[j]? = some T → LeafAt enc P W base (fun _ => true) held l j T) (fun i hi => by
      obtain ⟨cs', h1, h2⟩ := hel i hi
      obtain ⟨h3, h4⟩ := leaves_spec fl hl h2
      refine ⟨cs', by rw [h3, hn], fun j hj => ?_, h4⟩
      obtain ⟨_, _, h5⟩ := World.cells?_some h1
      rw [← Deep.add_add, h5 j hj])
    have cell : ∀ j, j < m * n → ∃ b : Value, W.cell? (ad.add j) = some b := fun j hj => by
      have hq : j / n < m := Nat.div_lt_of_lt_mul (by rw [Nat.mul_comm]; exact hj)
      have hr := Nat.mod_lt j h0
      obtain ⟨h1, h2, -⟩ := hf _ hq
      have h3 := h2 _ hr
      rw [Nat.div_add_mod'] at h3
      exact ⟨_, by rw [h3, List.getElem?_eq_getElem (by omega)]⟩
    obtain ⟨g, hg⟩ := Deep.choose_lt (α := Value) (p := fun j b => W.cell? (ad.add j) = some b) cell
    have hle2 : len * n ≤ m * n := Nat.mul_le_mul_right _ hle
    refine ⟨(List.range (len * n)).map g, ⟨hle, hm, by simp, (fun h => by cases h), fun hp => ?_⟩, ?_⟩
    · have hp' : 0 < len * n := Nat.mul_pos hp h0
      obtain ⟨b, o, spot⟩ := ad
      have hspot : spot = none := by simpa [Addr.add] using World.cell?_spot (hg 0 (by omega))
      subst hspot
      refine ⟨b, o, rfl, fun j hj => ?_⟩
      rw [← Go.WideShapes.add_plain, hg j (by omega), List.getElem?_map, List.getElem?_range hj]
      rfl
    · intro i j T hi hj
      obtain ⟨h1, h2, h3⟩ := hf i (by omega)
      have hjn : j < n := by rw [← hn]; exact (List.getElem?_eq_some_iff.1 hj).1
      obtain ⟨c, f', y, h4, h5⟩ := h3 j T hj
      have hlt : i * n + j < len * n := by
        have : (i + 1) * n ≤ len * n := Nat.mul_le_mul_right _ hi
        rw [Nat.succ_mul] at this
        omega
      refine ⟨c, f', y, ?_, h5⟩
      rw [List.getElem?_map, List.getElem?_range hlt]
      have h6 := h2 j hjn
      rw [hg _ (by omega), h4] at h6
      exact h6
theorem rd_of_bytes {s e : TypeId} {fuel : Nat} {c : Value} {x : DataW H × List MemPlace} (hs : P.underlying s = some (.slice e)) (he : P.underlying e = some (.int .u8)) (hc : P.cellsOf e = 1)
    (h : DataW.trod enc P W base (fun _ => true) held fuel s [c] = some x) : ∃ B m k l, c = .slice B m k ∧ Rd W 1 B m k (bvs l) := by
  rcases open_ints hs he hc h with ⟨hcs, _⟩ | ⟨ad, l, k, zs, hcs, _, hl, hm, hz, _, hcell, hwz⟩
  · simp at hcs
    subst hcs
    exact ⟨none, 0, 0, [], rfl, Rd.nil_ _ _⟩
  · simp at hcs
    subst hcs
    obtain ⟨l', h'⟩ := rd_of_ints hl hm (by simpa using hz) hcell hwz
    exact ⟨_, _, _, l', rfl, h'⟩
/-- A slice of bools. -/
theorem rd_of_bools {s e : TypeId} {fuel : Nat} {a : Option Addr} {len cap : Nat} {x : DataW H × List MemPlace} (hs : P.underlying s = some (.slice e)) (he : P.underlying e = some .bool) (hc : P.cellsOf e = 1)
    (h : DataW.trod enc P W base (fun _ => true) held fuel s [.slice a len cap] = some x) : ∃ l : List Bool, Rd W 1 a len cap (l.map Value.bool) := by
  have hlv : leaves P 1 e = some [e] := by
    unfold leaves
    rw [he]
    simp [hc]
  obtain ⟨cs, h1, h2⟩ := rd_of_structs (n := 1) hs hlv rfl hc (by omega) h
  obtain ⟨f, hf⟩ := Deep.choose_lt (α := Bool) (n := len) (p := fun i b => cs[i]? = some (.bool b)) (fun i hi => by
    obtain ⟨c, f, y, h3, h4⟩ := h2 i 0 e hi rfl
    obtain ⟨b, h5, -⟩ := DataW.trod_bool he h4
    rw [Nat.mul_one, Nat.add_zero] at h3
    refine ⟨b, ?_⟩
    rw [h3]
    simpa using h5)
  have hlen := h1.len
  have e : cs = ((List.range len).map f).map Value.bool := by
    apply List.ext_getElem?
    intro i
    by_cases hi : i < len
    · rw [hf i hi, List.getElem?_map, List.getElem?_map, List.getElem?_range hi]; rfl
    · rw [List.getElem?_eq_none (by omega), List.getElem?_eq_none (by simp; omega)]
  exact ⟨_, e ▸ h1⟩
/-- A slice of a number and bytes. -/
theorem rd_of_writes {s t e b : TypeId} {fl fuel : Nat} {a : Option Addr} {len cap : Nat} {x : DataW H × List MemPlace} (hs : P.underlying s = some (.slice t)) (hl : leaves P fl t = some [e, b]) (hc : P.cellsOf t = 2) (he : P.underlying e = some (.int .u8)) (hb : P.underlying b = some (.slice e)) (hce : P.cellsOf e = 1)
    (h : DataW.trod enc P W base (fun _ => true) held fuel s [.slice a len cap] = some x) :
    ∃ (cs : List Value) (ws : List (UInt8 × List UInt8)), Rd W 2 a len cap cs ∧ ws.length = len ∧ (∀ (j : Nat) (x : UInt8 × List UInt8), ws[j]? = some x → cs[j * 2]? = some (Value.int .u8 ((x.1.toNat : Nat) : Int))) ∧
      ∀ (j : Nat) (x : UInt8 × List UInt8), ws[j]? = some x → ∃ (B : Option Addr) (m k : Nat), cs[j * 2 + 1]? = some (Value.slice B m k) ∧ Rd W 1 B m k (bvs x.2) := by
  obtain ⟨cs, h1, h2⟩ := rd_of_structs (n := 2) hs hl rfl hc (by omega) h
  obtain ⟨f, hf⟩ := Deep.choose_lt (α := UInt8 × List UInt8) (n := len) (p := fun i x => cs[i * 2]? = some (Value.int .u8 ((x.1.toNat : Nat) : Int)) ∧ ∃ (B : Option Addr) (m k : Nat), cs[i * 2 + 1]? = some (Value.slice B m k) ∧ Rd W 1 B m k (bvs x.2)) (fun i hi => by
    obtain ⟨c, f, y, h3, h4⟩ := h2 i 0 e hi rfl
    obtain ⟨z, h5, -, h6⟩ := DataW.trod_int he h4
    obtain ⟨c', f', y', h7, h8⟩ := h2 i 1 b hi rfl
    obtain ⟨B, m, k, l, rfl, h9⟩ := rd_of_bytes hb he hce h8
    refine ⟨(UInt8.ofNat z.toNat, l), ?_, B, m, k, h7, h9⟩
    rw [Nat.add_zero] at h3
    rw [h3, u8_of_wf h6]
    simpa using h5)
  refine ⟨cs, (List.range len).map f, h1, by simp, fun j x hx => ?_, fun j x hx => ?_⟩
  · obtain ⟨hj, rfl⟩ : j < len ∧ f j = x := by
      rw [List.getElem?_map] at hx
      obtain ⟨y, hy, rfl⟩ := Option.map_eq_some_iff.1 hx
      obtain ⟨h1, h2⟩ := List.getElem?_eq_some_iff.1 hy
      simp at h1 h2
      subst h2
      exact ⟨h1, rfl⟩
    exact (hf j hj).1
  · obtain ⟨hj, rfl⟩ : j < len ∧ f j = x := by
      rw [List.getElem?_map] at hx
      obtain ⟨y, hy, rfl⟩ := Option.map_eq_some_iff.1 hx
      obtain ⟨h1, h2⟩ := List.getElem?_eq_some_iff.1 hy
      simp at h1 h2
      subst h2
      exact ⟨h1, rfl⟩
    exact (hf j hj).2
end
end Go.Proofs.Ytdnioigcgggdbaa
namespace Go.Proofs.Ytdnioigcgggdbaa
open Go.RowKit Go.ChangeShapes Go.WideShapes

section
variable {H : Type} {enc : TypeId × Value → H} {P : Program} {W : World} {base : Nat} {held : Bool}
/-- A slice of slices of bytes. -/
theorem rd_of_lists {s t e : TypeId} {fuel : Nat} {a : Option Addr} {len cap : Nat} {x : DataW H × List MemPlace} (hs : P.underlying s = some (.slice t)) (ht : P.underlying t = some (.slice e)) (he : P.underlying e = some (.int .u8)) (hct : P.cellsOf t = 1) (hce : P.cellsOf e = 1)
    (h : DataW.trod enc P W base (fun _ => true) held fuel s [.slice a len cap] = some x) :
    ∃ (cs : List Value) (ls : List (List UInt8)), Rd W 1 a len cap cs ∧ ls.length = len ∧ ∀ (j : Nat) (l : List UInt8), ls[j]? = some l → ∃ (B : Option Addr) (m k : Nat), cs[j]? = some (Value.slice B m k) ∧ Rd W 1 B m k (bvs l) := by
  have hlv : leaves P 1 t = some [t] := by
    unfold leaves
    rw [ht]
    simp [hct]
  obtain ⟨cs, h1, h2⟩ := rd_of_structs (n := 1) hs hlv rfl hct (by omega) h
  obtain ⟨f, hf⟩ := Deep.choose_lt (α := List UInt8) (n := len) (p := fun i l => ∃ (B : Option Addr) (m k : Nat), cs[i]? = some (Value.slice B m k) ∧ Rd W 1 B m k (bvs l)) (fun i hi => by
    obtain ⟨c, f, y, h3, h4⟩ := h2 i 0 t hi rfl
    obtain ⟨B, m, k, l, rfl, h5⟩ := rd_of_bytes ht he hce h4
    rw [Nat.mul_one, Nat.add_zero] at h3
    exact ⟨l, B, m, k, h3, h5⟩)
  refine ⟨cs, (List.range len).map f, h1, by simp, fun j l hj => ?_⟩
  rw [List.getElem?_map] at hj
  obtain ⟨y, hy, rfl⟩ := Option.map_eq_some_iff.1 hj
  obtain ⟨h6, h7⟩ := List.getElem?_eq_some_iff.1 hy
  simp at h6 h7
  subst h7
  exact hf j h6
/-- A slice of bools, as a leaf. -/
theorem rd_of_boolsL {s e : TypeId} {fuel : Nat} {c : Value} {x : DataW H × List MemPlace} (hs : P.underlying s = some (.slice e)) (he : P.underlying e = some .bool) (hc : P.cellsOf e = 1)
    (h : DataW.trod enc P W base (fun _ => true) held fuel s [c] = some x) : ∃ B m k, ∃ l : List Bool, c = .slice B m k ∧ Rd W 1 B m k (l.map Value.bool) := by
  have hsl : ∃ B m k, c = .slice B m k := by
    rcases Deep.open_slice hs h with ⟨hcs, _⟩ | ⟨ad, len', cap', m, k, D, Pl, hcs, _⟩
    · simp at hcs
      exact ⟨_, _, _, hcs⟩
    · simp at hcs
      exact ⟨_, _, _, hcs⟩
  obtain ⟨B, m, k, rfl⟩ := hsl
  obtain ⟨l, h1⟩ := rd_of_bools hs he hc h
  exact ⟨B, m, k, l, rfl, h1⟩
end
end Go.Proofs.Ytdnioigcgggdbaa
