/-
  Plain: columns from rows (a part of the elder text).
-/
import Derived.Test.YtmlmdklheiafpaaDoorPlacG
namespace Go.Proofs.YtmlmdklheiafpaaDoor

/-- A letter laid at the end of a row. -/
def qadd (Q : List (List Int)) (r : Nat) (c : Int) : List (List Int) := if r = Q.length then Q ++ [[c]] else Q.set r (Q.getD r [] ++ [c])
theorem fill_rep {T : List (List Int)} (h : Tab T) : Rep (fillC [] T) T := by
  have := Rep.fill T Rep.nil h.ne (by simpa using h.lens.1)
  simpa using this
theorem addCol_len : ∀ (c : List Int), (addCol [] c).length = c.length
  | [] => rfl
  | b :: c => by simp only [addCol, List.length_cons]; rw [addCol_len c]
theorem addCol_keep : ∀ (U : List (List Int)) (c : List Int), c.length ≤ U.length → (addCol U c).length = U.length
  | U, [], _ => by simp [addCol]
  | [], _ :: _, h => by simp at h
  | s :: U, b :: c, h => by simp only [addCol, List.length_cons]; rw [addCol_keep U c (by simpa using h)]
/-- One box more of the row. -/
theorem addCol_step : ∀ (U : List (List Int)) (r : List Int) {j : Nat} {x : Int}, r[j]? = some x → (U = [] ∨ r.length ≤ U.length) → addCol U (r.take (j + 1)) = qadd (addCol U (r.take j)) j x
  | _, [], _, _, h, _ => by simp at h
  | [], b :: r, 0, x, h, _ => by
    obtain rfl : b = x := by simpa using h
    simp [addCol, qadd]
  | [], b :: r, j + 1, x, h, _ => by
    have ih := addCol_step [] r (j := j) (x := x) (by simpa using h) (.inl rfl)
    simp only [List.take_succ_cons, addCol]
    rw [ih]
    unfold qadd
    by_cases e : j = (addCol [] (r.take j)).length
    · rw [if_pos e, if_pos (by rw [List.length_cons]; omega)]; rfl
    · rw [if_neg e, if_neg (by rw [List.length_cons]; omega)]; simp
  | s :: U, b :: r, 0, x, h, _ => by
    obtain rfl : b = x := by simpa using h
    simp [addCol, qadd]
  | s :: U, b :: r, j + 1, x, h, hl => by
    have hl2 : r.length ≤ U.length := by
      rcases hl with e | e
      · cases e
      · simpa using e
    have ih := addCol_step U r (j := j) (x := x) (by simpa using h) (.inr hl2)
    simp only [List.take_succ_cons, addCol]
    rw [ih]
    unfold qadd
    by_cases e : j = (addCol U (r.take j)).length
    · rw [if_pos e, if_pos (by rw [List.length_cons]; omega)]; rfl
    · rw [if_neg e, if_neg (by rw [List.length_cons]; omega)]; simp
theorem fillC_snoc (U T : List (List Int)) (r : List Int) : fillC U (T ++ [r]) = addCol (fillC U T) r := by
  unfold fillC; rw [List.foldl_append]; rfl
theorem fillC_take {T : List (List Int)} {i : Nat} (h : i < T.length) : fillC [] (T.take (i + 1)) = addCol (fillC [] (T.take i)) (T.getD i []) := by
  rw [take_snoc h, fillC_snoc, getD_get h]
theorem tab_take : ∀ {T : List (List Int)} (i : Nat), Tab T → Tab (T.take i)
  | [], i, _ => by simp [Tab]
  | r :: t, 0, _ => trivial
  | r :: t, i + 1, h => by
    refine ⟨h.1, h.2.1, ?_, tab_take i h.2.2.2⟩
    cases i with
    | zero => simp [Dom]
    | succ i =>
      cases t with
      | nil => simp [Dom]
      | cons s t => exact h.2.2.1
/-- How high what has been laid stands. -/
theorem fill_high {T : List (List Int)} (h : Tab T) {i : Nat} (hi : i < T.length) : fillC [] (T.take i) = [] ∧ i = 0 ∨ (T.getD i []).length ≤ (fillC [] (T.take i)).length ∧ i ≠ 0 := by
  by_cases h0 : i = 0
  · subst h0; exact .inl ⟨rfl, rfl⟩
  · refine .inr ⟨?_, h0⟩
    rw [(fill_rep (tab_take i h)).height]
    have h1 : (T.take i).getD 0 [] = T.headD [] := by
      cases T with
      | nil => simp at hi
      | cons r t =>
        obtain ⟨k, rfl⟩ : ∃ k, i = k + 1 := ⟨i - 1, by omega⟩
        simp
    rw [h1]
    exact h.lens.2 _ (by rw [getD_get hi]; exact List.getElem_mem hi)
theorem fill_short {T : List (List Int)} (h : FillOk T) (i : Nat) : (fillC [] (T.take i)).length ≤ 40 ∧ ∀ j, ((fillC [] (T.take i)).getD j []).length ≤ 40 := by
  have hr := fill_rep (tab_take i h.1)
  have h1 := hr.height
  have h2 := h.small
  refine ⟨?_, fun j => ?_⟩
  · rw [h1]
    have : ((T.take i).getD 0 []).length ≤ (T.getD 0 []).length := by
      cases T with
      | nil => simp
      | cons r t => cases i <;> simp
    have := h2.2 0
    omega
  · by_cases c : j < (fillC [] (T.take i)).length
    · apply Classical.byContradiction
      intro hn
      have h3 := hr.ent j 40
      rw [List.getElem?_eq_getElem (by omega)] at h3
      have h4 : (T.take i).length ≤ 40 := by rw [List.length_take]; omega
      rw [List.getD_eq_getElem?_getD (l := T.take i), List.getElem?_eq_none h4] at h3
      simp at h3
    · rw [List.getD_eq_getElem?_getD, List.getElem?_eq_none (by omega)]; simp
end Go.Proofs.YtmlmdklheiafpaaDoor
