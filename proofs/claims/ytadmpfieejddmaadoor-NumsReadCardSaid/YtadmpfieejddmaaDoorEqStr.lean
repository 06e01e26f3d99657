/-
  Two values of a type made of integers, bools and strings, in structs and arrays, held against one another: they are equal just if their cells are. Nothing of the program stands here.
-/
import Derived.Test.YtadmpfieejddmaaDoorOpen3
import Derived.ChangeKeysEq
namespace Go.Proofs.YtadmpfieejddmaaDoor
open Go.RowKit

/-- nothing in that type keeps '==' from its cells. -/
def eqOk (P : Program) : Nat → TypeId → Bool
  | 0, _ => false
  | n + 1, t =>
    match P.underlying t with
    | some (.struct fs) => !P.stoodInHeld t && fs.toList.all fun f => f.name != "_" && eqOk P n f.type
    | some (.array _ e) => eqOk P n e
    | some (.int _) | some .bool | some .string => true
    | _ => false
/-- a value that a leaf of that type may hold. -/
def LeafV (P : Program) (T : TypeId) (v : Value) : Prop :=
  (∃ q n, P.underlying T = some (.int q) ∧ v = .int q n) ∨ (∃ b, P.underlying T = some .bool ∧ v = .bool b) ∨ (∃ s, P.underlying T = some .string ∧ v = .string s)
def Typed (P : Program) (l : List TypeId) (xs : List Value) : Prop := xs.length = l.length ∧ ∀ (i : Nat) (T : TypeId), l[i]? = some T → ∃ v, xs[i]? = some v ∧ LeafV P T v
theorem Typed.chunk {P : Program} {a b c : List TypeId} {xs : List Value} (h : Typed P (a ++ b ++ c) xs) : Typed P b ((xs.drop a.length).take b.length) := by
  have hl := h.1
  simp only [List.length_append] at hl
  refine ⟨by rw [List.length_take, List.length_drop]; omega, fun i T hi => ?_⟩
  have hlt : i < b.length := (List.getElem?_eq_some_iff.1 hi).1
  have h2 : (a ++ b ++ c)[a.length + i]? = some T := by
    rw [List.append_assoc, List.getElem?_append_right (by omega), Nat.add_sub_cancel_left, List.getElem?_append_left hlt]; exact hi
  obtain ⟨v, h3, h4⟩ := h.2 _ T h2
  exact ⟨v, by rw [List.getElem?_take, if_pos hlt, List.getElem?_drop]; exact h3, h4⟩
theorem Typed.nil (P : Program) : Typed P [] [] := ⟨rfl, fun i T h => by cases h⟩
theorem Typed.cons {P : Program} {T : TypeId} {l : List TypeId} {v : Value} {xs : List Value} (h : LeafV P T v) (k : Typed P l xs) : Typed P (T :: l) (v :: xs) :=
  ⟨by simp [k.1], fun i T' hi => by
    cases i with
    | zero => simp at hi; subst hi; exact ⟨v, rfl, h⟩
    | succ i => obtain ⟨u, h1, h2⟩ := k.2 i T' (by simpa using hi); exact ⟨u, by simpa using h1, h2⟩⟩
theorem leaf_int {P : Program} {T : TypeId} {q : IntKind} (h : P.underlying T = some (.int q)) (n : Int) : LeafV P T (.int q n) := .inl ⟨q, n, h, rfl⟩
/-- cells as a value of that type. -/
def isRowT (P : Program) (t : TypeId) : Bool := match P.underlying t with | some (.struct _) | some (.array _ _) => true | _ => false
def pack (P : Program) (t : TypeId) (xs : List Value) : Value := if isRowT P t then .agg xs.toArray else xs.headD undef

section
variable {P : Program} {w : World}
theorem run_isAgg {t : TypeId} {d : TypeDesc} (h : P.underlying t = some d) : (isAgg t).run P w = .ok (isRowT P t) w := by
  unfold isAgg isRowT
  rw [Sem.run_bind, run_underlying h w, h]
  cases d <;> simp
theorem isRowT_of {t : TypeId} (h : isRowT P t = true) : ∃ d, P.underlying t = some d := by
  unfold isRowT at h
  cases hu : P.underlying t with
  | none => rw [hu] at h; cases h
  | some d => exact ⟨d, rfl⟩
theorem run_part {t : TypeId} {l : List TypeId} {d : TypeDesc} (hu : P.underlying t = some d) (hc : l.length = P.cellsOf t) (h1 : isRowT P t = false → l.length = 1) (xs : List Value) (off : Nat) (h : off + l.length ≤ xs.length) :
    (part t xs.toArray off).run P w = .ok (pack P t ((xs.drop off).take l.length)) w := by
  unfold part pack
  rw [Sem.run_bind, run_isAgg hu]
  simp only [Result.andThen_ok]
  obtain ⟨i, hi⟩ := info_of_underlying hu
  cases hr : isRowT P t with
  | true =>
    simp only [↓reduceIte, Sem.run_bind, run_sizeOf w hi, Result.andThen_ok, Sem.run_pure]
    rw [← hc]
    congr 2
    simp
  | false =>
    have hl := h1 hr
    simp only [Bool.false_eq_true, ↓reduceIte]
    have hlt : off < xs.length := by omega
    rw [show (xs.toArray)[off]? = some xs[off] by simp [List.getElem?_eq_getElem hlt]]
    rw [hl, List.drop_eq_getElem_cons hlt]
    rfl
theorem fold_prefix {P : Program} {n : Nat} : ∀ (gs : List Field) (acc l : List TypeId),
    gs.foldlM (fun (acc : List TypeId) f => (leaves P n f.type).bind fun l => if f.offset = acc.length ∧ l.length = P.cellsOf f.type then some (acc ++ l) else none) acc = some l → ∃ r, l = acc ++ r
  | [], acc, l, h => by simp at h; exact ⟨[], by simp [h]⟩
  | g :: gs, acc, l, h => by
    rw [List.foldlM_cons] at h
    obtain ⟨acc', h3, h4⟩ := Option.bind_eq_some_iff.1 h
    obtain ⟨lg, h5, h6⟩ := Option.bind_eq_some_iff.1 h3
    split at h6
    · cases h6
      obtain ⟨r, hr⟩ := fold_prefix gs _ _ h4
      exact ⟨lg ++ r, by rw [hr, List.append_assoc]⟩
    · cases h6
theorem leaves_row {n : Nat} {t : TypeId} {l : List TypeId} (h : leaves P n t = some l) (hr : isRowT P t = false) : l = [t] ∧ ∃ d, P.underlying t = some d := by
  cases n with
  | zero => simp [leaves] at h
  | succ n =>
    unfold leaves at h
    unfold isRowT at hr
    split at h
    · rename_i hu; rw [hu] at hr; cases hr
    · rename_i hu; rw [hu] at hr; cases hr
    · rename_i d h1 h2 hu
      split at h
      · cases h; exact ⟨rfl, _, hu⟩
      · cases h
    · cases h
theorem leaves_under {n : Nat} {t : TypeId} {l : List TypeId} (h : leaves P n t = some l) : ∃ d, P.underlying t = some d := by
  cases hr : isRowT P t with
  | true => exact isRowT_of hr
  | false => exact (leaves_row h hr).2
theorem eq_split {xs ys : List Value} {a b : Nat} : xs.drop a = ys.drop a ↔ (xs.drop a).take b = (ys.drop a).take b ∧ xs.drop (a + b) = ys.drop (a + b) := by
  constructor
  · intro h; exact ⟨by rw [h], by rw [← List.drop_drop, ← List.drop_drop, h]⟩
  · rintro ⟨h1, h2⟩
    rw [← List.take_append_drop b (xs.drop a), ← List.take_append_drop b (ys.drop a), h1, List.drop_drop, List.drop_drop, h2]

theorem eq_leaves : ∀ (n : Nat) {t : TypeId} {l : List TypeId} {xs ys : List Value} (w : World), leaves P n t = some l → eqOk P n t = true → Typed P l xs → Typed P l ys → ∀ d, n ≤ d →
    ∃ r : Bool, (Op.equalIn d t (pack P t xs) (pack P t ys)).run P w = .ok r w ∧ (r = true ↔ xs = ys)
  | 0, _, _, _, _, _, hl, _, _, _, _, _ => by simp [leaves] at hl
  | n + 1, t, l, xs, ys, w, hl, ho, hx, hy, d, hd => by
    obtain ⟨d, rfl⟩ : ∃ d', d = d' + 1 := ⟨d - 1, by omega⟩
    have hnd : n ≤ d := by omega
    have hl0 := hl
    have hxl := hx.1
    have hyl := hy.1
    unfold leaves at hl
    unfold eqOk at ho
    split at hl
    · rename_i fs hu
      rw [hu] at ho
      simp only [Bool.and_eq_true, Bool.not_eq_true', List.all_eq_true, bne_iff_ne, ne_eq] at ho
      obtain ⟨hs, hall⟩ := ho
      have hfs : fs = P.fieldsOf t := by unfold Program.fieldsOf; rw [hu]
      obtain ⟨l', h1, h2⟩ := Option.bind_eq_some_iff.1 hl
      split at h2
      · cases h2
        have hp : ∀ zs, pack P t zs = .agg zs.toArray := fun zs => by unfold pack isRowT; rw [hu]; rfl
        rw [hp, hp, run_equalIn_struct w d t _ _ (by rw [← hfs]; exact hu) hs, ← hfs]
        have key : ∀ (gs : List Field) (acc : List TypeId), (∀ f ∈ gs, ¬ f.name = "_" ∧ eqOk P n f.type = true) →
            gs.foldlM (fun (acc : List TypeId) f => (leaves P n f.type).bind fun l => if f.offset = acc.length ∧ l.length = P.cellsOf f.type then some (acc ++ l) else none) acc = some l →
            ∃ r : Bool, (Op.eqFields d xs.toArray ys.toArray gs).run P w = .ok r w ∧ (r = true ↔ xs.drop acc.length = ys.drop acc.length) := by
          intro gs
          induction gs with
          | nil =>
            intro acc _ h
            simp at h
            subst h
            exact ⟨true, by simp [Op.eqFields], by rw [List.drop_of_length_le (by omega), List.drop_of_length_le (by omega)]; simp⟩
          | cons g gs ih =>
            intro acc hg h
            rw [List.foldlM_cons] at h
            obtain ⟨acc', h3, h4⟩ := Option.bind_eq_some_iff.1 h
            obtain ⟨lg, h5, h6⟩ := Option.bind_eq_some_iff.1 h3
            split at h6
            · rename_i hoff
              cases h6
              obtain ⟨rr, hrr⟩ := fold_prefix gs _ _ h4
              have hlen : acc.length + lg.length ≤ l.length := by rw [hrr]; simp
              obtain ⟨dd, hdd⟩ := leaves_under h5
              have h1g : isRowT P g.type = false → lg.length = 1 := fun hr => by rw [(leaves_row h5 hr).1]; rfl
              obtain ⟨r1, hr1, hi1⟩ := eq_leaves n w h5 (hg g (.head _)).2 (Typed.chunk (by rw [← hrr]; exact hx)) (Typed.chunk (by rw [← hrr]; exact hy)) d hnd
              obtain ⟨r2, hr2, hi2⟩ := ih _ (fun f hf => hg f (.tail _ hf)) h4
              simp only [Op.eqFields, ne_eq, (hg g (.head _)).1, not_false_eq_true, ↓reduceIte, Sem.run_bind, hoff.1]
              rw [run_part hdd hoff.2 h1g xs _ (by omega)]
              simp only [Result.andThen_ok]
              rw [run_part hdd hoff.2 h1g ys _ (by omega)]
              simp only [Result.andThen_ok, hr1]
              rw [List.length_append] at hi2
              cases r1 with
              | false => exact ⟨false, by simp, by rw [eq_split (b := lg.length)]; exact ⟨fun h => by simp at h, fun h => absurd (hi1.2 h.1) (by simp)⟩⟩
              | true => exact ⟨r2, by simpa using hr2, by rw [eq_split (b := lg.length), hi2]; exact ⟨fun h => ⟨hi1.1 rfl, h⟩, fun h => h.2⟩⟩
            · cases h6
        obtain ⟨r, hr, hi⟩ := key fs.toList [] hall h1
        exact ⟨r, hr, by simpa using hi⟩
      · cases h2
    · rename_i k e hu
      rw [hu] at ho
      simp only at ho
      obtain ⟨l', h1, h2⟩ := Option.bind_eq_some_iff.1 hl
      split at h2
      · rename_i hle
        cases h2
        obtain ⟨he, hk⟩ := hle
        have hp : ∀ zs, pack P t zs = .agg zs.toArray := fun zs => by unfold pack isRowT; rw [hu]; rfl
        obtain ⟨de, hde⟩ := leaves_under h1
        obtain ⟨ie, hie⟩ := info_of_underlying hde
        have h1g : isRowT P e = false → l'.length = 1 := fun hr => by rw [(leaves_row h1 hr).1]; rfl
        rw [hp, hp, run_equalIn_array w d _ _ hu hie, List.range_eq_range']
        have hfl : ∀ k : Nat, (List.replicate k l').flatten.length = k * l'.length := fun k => by induction k with
          | zero => simp
          | succ k ih => rw [List.replicate_succ, List.flatten_cons, List.length_append, ih, Nat.succ_mul]; omega
        rw [hfl] at hxl hyl
        have key : ∀ m s, s + m = k → ∃ r : Bool, (Op.eqItems d e (P.cellsOf e) xs.toArray ys.toArray (List.range' s m)).run P w = .ok r w ∧ (r = true ↔ xs.drop (s * l'.length) = ys.drop (s * l'.length)) := by
          intro m
          induction m with
          | zero =>
            intro s hs
            obtain rfl : s = k := by omega
            exact ⟨true, by simp [Op.eqItems], by rw [List.drop_of_length_le (by omega), List.drop_of_length_le (by omega)]; simp⟩
          | succ m ih =>
            intro s hs
            have hsplit : (List.replicate k l').flatten = (List.replicate s l').flatten ++ l' ++ (List.replicate m l').flatten := by
              rw [show k = s + (m + 1) by omega, ← List.replicate_append_replicate, List.flatten_append, List.replicate_succ, List.flatten_cons, List.append_assoc]
            have hoff : s * l'.length + l'.length ≤ k * l'.length := by rw [← Nat.succ_mul]; exact Nat.mul_le_mul_right _ (by omega)
            have c1 := Typed.chunk (P := P) (xs := xs) (by rw [← hsplit]; exact hx)
            have c2 := Typed.chunk (P := P) (xs := ys) (by rw [← hsplit]; exact hy)
            rw [hfl] at c1 c2
            obtain ⟨r1, hr1, hi1⟩ := eq_leaves n w h1 ho c1 c2 d hnd
            obtain ⟨r2, hr2, hi2⟩ := ih (s + 1) (by omega)
            simp only [List.range'_succ, Op.eqItems, Sem.run_bind, ← he]
            rw [run_part hde he h1g xs _ (by omega)]
            simp only [Result.andThen_ok]
            rw [run_part hde he h1g ys _ (by omega)]
            simp only [Result.andThen_ok, hr1]
            rw [Nat.succ_mul] at hi2
            rw [← he] at hr2
            cases r1 with
            | false => exact ⟨false, by simp, by rw [eq_split (b := l'.length)]; exact ⟨fun h => by simp at h, fun h => absurd (hi1.2 h.1) (by simp)⟩⟩
            | true => exact ⟨r2, by simpa using hr2, by rw [eq_split (b := l'.length), hi2]; exact ⟨fun h => ⟨hi1.1 rfl, h⟩, fun h => h.2⟩⟩
        obtain ⟨r, hr, hi⟩ := key k 0 (by omega)
        exact ⟨r, hr, by simpa using hi⟩
      · cases h2
    · rename_i dd hns hna hu
      split at hl
      · cases hl
        have hrow : isRowT P t = false := by unfold isRowT; rw [hu]; cases dd <;> simp_all
        obtain ⟨a, ha, hva⟩ := hx.2 0 t rfl
        obtain ⟨b, hb, hvb⟩ := hy.2 0 t rfl
        obtain rfl : xs = [a] := by match xs, hxl with | [x], _ => simpa using ha
        obtain rfl : ys = [b] := by match ys, hyl with | [x], _ => simpa using hb
        unfold pack
        rw [hrow]
        simp only [Bool.false_eq_true, ↓reduceIte, List.headD_cons]
        rcases hva with ⟨q, m, h1, rfl⟩ | ⟨m, h1, rfl⟩ | ⟨m, h1, rfl⟩ <;> rcases hvb with ⟨q', m', h1', rfl⟩ | ⟨m', h1', rfl⟩ | ⟨m', h1', rfl⟩ <;> rw [h1] at h1' <;> cases h1'
        · exact ⟨m == m', run_equalIn_int w d t q q m m' h1, by simp⟩
        · exact ⟨m == m', run_equalIn_bool' w d t m m' h1, by simp⟩
        · refine ⟨m.toList == m'.toList, run_equalIn_string w d t m m' h1, ?_⟩
          rw [← beq_toListBytes]
          show (m.data == m'.data) = true ↔ _
          rw [beq_iff_eq]
          obtain ⟨m⟩ := m
          obtain ⟨m'⟩ := m'
          simp
      · cases hl
    · cases hl
/-- '==' and '!=' of two such structs. -/
theorem run_eq_struct {t : TypeId} {l : List TypeId} (hl : leaves P 6 t = some l) (ho : eqOk P 6 t = true) (hr : isRowT P t = true) (xs ys : List Value) (hx : Typed P l xs) (hy : Typed P l ys) :
    ∃ r : Bool, (∀ w, (binOp .eql t (.agg xs.toArray) (.agg ys.toArray)).run P w = .ok (.bool r) w) ∧ (∀ w, (binOp .neq t (.agg xs.toArray) (.agg ys.toArray)).run P w = .ok (.bool (!r)) w) ∧ (r = true ↔ xs = ys) := by
  have hp : ∀ zs, pack P t zs = .agg zs.toArray := fun zs => by unfold pack; rw [hr]; rfl
  have h := fun w => eq_leaves 6 w hl ho hx hy 10000 (by omega)
  simp only [hp] at h
  obtain ⟨r, h1, h2⟩ := h default
  have same : ∀ w, (Op.equalIn 10000 t (.agg xs.toArray) (.agg ys.toArray)).run P w = .ok r w := fun w => by
    obtain ⟨r', h3, h4⟩ := h w
    have : r' = r := by
      cases r <;> cases r' <;> simp_all
    rw [h3, this]
  exact ⟨r, fun w => by rw [run_eql_struct, same w]; simp, fun w => by rw [run_neq_struct, same w]; simp, h2⟩
end
end Go.Proofs.YtadmpfieejddmaaDoor
