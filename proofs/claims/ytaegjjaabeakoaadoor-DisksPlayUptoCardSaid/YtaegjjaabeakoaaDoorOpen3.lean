/-
  What a struct, or an array, that came in reads as, leaf by leaf. Nothing of the program stands here.
-/
import Derived.Test.YtaegjjaabeakoaaDoorOpen
import Derived.Deep.Slices
namespace Go.Proofs.YtaegjjaabeakoaaDoor
open Go.RowKit Go.ChangeShapes Go.WideShapes

/-- the types of a type's cells, where each leaf is one cell. -/
def leaves (P : Program) : Nat → TypeId → Option (List TypeId)
  | 0, _ => none
  | n + 1, t =>
    match P.underlying t with
    | some (.struct fs) => (fs.toList.foldlM (fun (acc : List TypeId) f => (leaves P n f.type).bind fun l => if f.offset = acc.length ∧ l.length = P.cellsOf f.type then some (acc ++ l) else none) []).bind fun l => if l.length = P.cellsOf t then some l else none
    | some (.array k e) => (leaves P n e).bind fun l => if l.length = P.cellsOf e ∧ P.cellsOf t = k * l.length then some (List.replicate k l).flatten else none
    | some _ => if P.cellsOf t = 1 then some [t] else none
    | none => none

section
variable {H : Type} {enc : TypeId × Value → H} {P : Program} {w : World} {base : Nat} {spare : Nat → Bool} {held : Bool}
/-- cell i reads as a leaf of type T. -/
def LeafAt (enc : TypeId × Value → H) (P : Program) (w : World) (base : Nat) (spare : Nat → Bool) (held : Bool) (cs : List Value) (i : Nat) (T : TypeId) : Prop :=
  ∃ c f y, cs[i]? = some c ∧ DataW.trod enc P w base spare held f T [c] = some y
theorem trod_len {t : TypeId} {fuel : Nat} {cs : List Value} {x : DataW H × List MemPlace} (h1 : P.cellsOf t = 1) (h : DataW.trod enc P w base spare held fuel t cs = some x) : cs.length = 1 := by
  cases fuel with
  | zero => simp [DataW.trod] at h
  | succ n =>
    unfold DataW.trod at h
    split at h <;> first | rfl | (cases h; done) | (rename_i hc _; split at h; (rename_i he; rw [h1] at he; exact he); cases h) | (split at h; (rename_i he; rw [h1] at he; exact he); cases h)
theorem leaves_spec : ∀ (n : Nat) {t : TypeId} {l : List TypeId} {fuel : Nat} {cs : List Value} {x : DataW H × List MemPlace}, leaves P n t = some l → DataW.trod enc P w base spare held fuel t cs = some x →
    cs.length = l.length ∧ ∀ i T, l[i]? = some T → LeafAt enc P w base spare held cs i T
  | 0, _, _, _, _, _, hl, _ => by simp [leaves] at hl
  | n + 1, t, l, fuel, cs, x, hl, h => by
    unfold leaves at hl
    split at hl
    · rename_i fs hu
      obtain ⟨xs, m, -, -, hlen, hxl, hf⟩ := DataW.trod_struct hu h
      obtain ⟨l', h1, h2⟩ := Option.bind_eq_some_iff.1 hl
      split at h2
      · rename_i hle
        cases h2
        refine ⟨by rw [hlen, hle], ?_⟩
        -- the fold
        have key : ∀ (gs : List Field) (k : Nat) (acc l : List TypeId), (∀ i f, gs[i]? = some f → fs[k + i]? = some f) → (∀ i T, acc[i]? = some T → LeafAt enc P w base spare held cs i T) →
            gs.foldlM (fun (acc : List TypeId) f => (leaves P n f.type).bind fun l => if f.offset = acc.length ∧ l.length = P.cellsOf f.type then some (acc ++ l) else none) acc = some l → ∀ i T, l[i]? = some T → LeafAt enc P w base spare held cs i T := by
          intro gs
          induction gs with
          | nil => intro k acc l _ ha h i T; simp at h; subst h; exact ha i T
          | cons g gs ih =>
            intro k acc l hg ha h
            rw [List.foldlM_cons] at h
            obtain ⟨acc', h3, h4⟩ := Option.bind_eq_some_iff.1 h
            obtain ⟨lg, h5, h6⟩ := Option.bind_eq_some_iff.1 h3
            split at h6
            · rename_i ho
              cases h6
              refine ih (k + 1) _ l (fun i f hi => by have := hg (i + 1) f (by simpa using hi); rwa [Nat.add_assoc, Nat.add_comm 1 i]) ?_ h4
              intro i T hi
              rw [List.getElem?_append] at hi
              split at hi
              · exact ha i T hi
              · rename_i hge
                have hfk := hg 0 g rfl
                have h7 := hf (k + 0) g hfk
                have hk : k + 0 < fs.size := (Array.getElem?_eq_some_iff.1 hfk).1
                rw [List.getElem?_eq_getElem (by rw [hxl]; exact hk)] at h7
                obtain ⟨h8, h9⟩ := leaves_spec n h5 h7
                obtain ⟨c, f, y, hc, hy⟩ := h9 _ T hi
                refine ⟨c, f, y, ?_, hy⟩
                rw [List.getElem?_take, List.getElem?_drop] at hc
                split at hc
                · rw [← hc]; congr 1; omega
                · cases hc
            · cases h6
        exact key fs.toList 0 [] _ (fun i f hi => by simpa using hi) (by simp) h1
      · cases h2
    · rename_i k e hu
      obtain ⟨xs, m, -, -, hlen, hxl, hel⟩ := DataW.trod_array hu h
      obtain ⟨l', h1, h2⟩ := Option.bind_eq_some_iff.1 hl
      split at h2
      · rename_i hle
        cases h2
        obtain ⟨he, hk⟩ := hle
        have hfl : ∀ k : Nat, (List.replicate k l').flatten.length = k * l'.length := fun k => by induction k with
          | zero => simp
          | succ k ih => rw [List.replicate_succ, List.flatten_cons, List.length_append, ih, Nat.succ_mul]; omega
        refine ⟨by rw [hlen, hk, hfl], fun i T hi => ?_⟩
        have hrep : ∀ (k i : Nat) (T : TypeId), (List.replicate k l').flatten[i]? = some T → ∃ q r, q < k ∧ r < l'.length ∧ i = q * l'.length + r ∧ l'[r]? = some T := by
          intro k
          induction k with
          | zero => intro i T h; simp at h
          | succ k ih =>
            intro i T h
            rw [List.replicate_succ, List.flatten_cons, List.getElem?_append] at h
            split at h
            · rename_i hlt; exact ⟨0, i, by omega, hlt, by omega, h⟩
            · rename_i hge
              obtain ⟨q, r, h1, h2, h3, h4⟩ := ih _ T h
              exact ⟨q + 1, r, by omega, h2, by rw [Nat.succ_mul]; omega, h4⟩
        obtain ⟨q, r, h3, h4, rfl, h5⟩ := hrep k i T hi
        have h6 := hel q h3
        rw [List.getElem?_eq_getElem (by rw [hxl]; exact h3)] at h6
        obtain ⟨h8, h9⟩ := leaves_spec n h1 h6
        obtain ⟨c, f, y, hc, hy⟩ := h9 r T h5
        refine ⟨c, f, y, ?_, hy⟩
        rw [List.getElem?_take, List.getElem?_drop] at hc
        split at hc
        · rw [← hc, he]
        · cases hc
      · cases h2
    · split at hl
      · rename_i h1
        cases hl
        have := trod_len h1 h
        refine ⟨this, fun i T hi => ?_⟩
        match cs, this with
        | [c], _ =>
          match i with
          | 0 => simp at hi; subst hi; exact ⟨c, fuel, x, rfl, h⟩
          | i + 1 => simp at hi
      · cases hl
    · cases hl
end
end Go.Proofs.YtaegjjaabeakoaaDoor
