/-
  Plain: tableaux as the house checks them.
-/
import Derived.Test.YtmlmdklheiafpaaDoorPlacC
namespace Go.Proofs.YtmlmdklheiafpaaDoor

/-- How many boxes. -/
def boxes (T : List (List Int)) : Nat := (T.map List.length).sum
theorem boxes_nil : boxes [] = 0 := rfl
theorem boxes_cons (r : List Int) (T : List (List Int)) : boxes (r :: T) = r.length + boxes T := by simp [boxes]
theorem boxes_append (T U : List (List Int)) : boxes (T ++ U) = boxes T + boxes U := by simp [boxes]
theorem boxes_take {T : List (List Int)} {i : Nat} (h : i < T.length) : boxes (T.take (i + 1)) = boxes (T.take i) + (T.getD i []).length := by
  rw [take_snoc h, boxes_append, getD_get h, boxes_cons, boxes_nil]; omega
theorem boxes_le {T : List (List Int)} (i : Nat) : boxes (T.take i) ≤ boxes T := by
  have : boxes T = boxes (T.take i) + boxes (T.drop i) := by rw [← boxes_append, List.take_append_drop]
  omega
theorem boxes_word : ∀ (T : List (List Int)), boxes T = (rword T).length
  | [] => rfl
  | r :: t => by rw [boxes_cons]; simp only [rword, List.length_append]; rw [boxes_word t]; omega
theorem rword_mem : ∀ {T : List (List Int)} {x : Int}, x ∈ rword T ↔ ∃ r ∈ T, x ∈ r
  | [], x => by simp [rword]
  | r :: t, x => by
    simp only [rword, List.mem_append]
    rw [rword_mem]; simp [or_comm]
theorem Kn.mem {a b : List Int} (h : Kn a b) (x : Int) : x ∈ a ↔ x ∈ b := by
  induction h with
  | refl w => rfl
  | step u v k => cases k <;> (simp; try omega) <;> (constructor <;> intro h <;> rcases h with h | h | h | h | h <;> simp [h])
  | symm _ ih => exact ih.symm
  | trans _ _ ih1 ih2 => exact ih1.trans ih2
/-- A letter of the house. -/
def Lt (x : Int) : Prop := 1 ≤ x ∧ x ≤ 99
/-- What fill.Check lets through. -/
def FillOk (T : List (List Int)) : Prop := Tab T ∧ (∀ r ∈ T, ∀ x ∈ r, Lt x) ∧ boxes T ≤ 40
theorem fill_word {w : List Int} (hl : w.length ≤ 40) (h : ∀ x ∈ w, Lt x) : FillOk (insW [] w) ∧ boxes (insW [] w) = w.length := by
  have hk := insW_word w (T := []) (fun r hr => by simp at hr)
  simp only [rword, List.nil_append] at hk
  have hb : boxes (insW [] w) = w.length := by rw [boxes_word, ← hk.len]
  refine ⟨⟨insW_tab w trivial, fun r hr x hx => ?_, by omega⟩, hb⟩
  exact h x ((hk.mem x).2 (rword_mem.2 ⟨r, hr, hx⟩))
theorem FillOk.word {T : List (List Int)} (h : FillOk T) : (rword T).length = boxes T ∧ ∀ x ∈ rword T, Lt x :=
  ⟨(boxes_word T).symm, fun x hx => by obtain ⟨r, hr, hx⟩ := rword_mem.1 hx; exact h.2.1 r hr x hx⟩

/-- A box that is in order. -/
def BoxOk (T : List (List Int)) (i j : Nat) : Prop :=
  Lt ((T.getD i []).getD j 0) ∧ (0 < j → (T.getD i []).getD (j - 1) 0 ≤ (T.getD i []).getD j 0) ∧ (0 < i → (T.getD (i - 1) []).getD j 0 < (T.getD i []).getD j 0)
/-- A row that is in order. -/
def RowOk (T : List (List Int)) (i : Nat) : Prop :=
  (T.getD i []).length ≠ 0 ∧ (0 < i → (T.getD i []).length ≤ (T.getD (i - 1) []).length) ∧ ∀ j, j < (T.getD i []).length → BoxOk T i j
theorem some_getD {l : List Int} {j : Nat} {x : Int} (h : l[j]? = some x) : j < l.length ∧ l.getD j 0 = x := by
  obtain ⟨h1, h2⟩ := List.getElem?_eq_some_iff.1 h
  exact ⟨h1, by rw [getD_get h1]; exact h2⟩
theorem getD_some {l : List Int} {j : Nat} (h : j < l.length) : l[j]? = some (l.getD j 0) := by rw [getD_get h]; exact List.getElem?_eq_getElem h
theorem fill_of {T : List (List Int)} (hb : boxes T ≤ 40) (h : ∀ i, i < T.length → RowOk T i) : FillOk T := by
  have hg : ∀ r ∈ T, ∃ i, i < T.length ∧ T.getD i [] = r := fun r hr => by
    obtain ⟨i, hi, e⟩ := List.getElem_of_mem hr
    exact ⟨i, hi, by rw [getD_get hi]; exact e⟩
  refine ⟨tab_of (fun r hr => ?_) (fun i => ?_), fun r hr x hx => ?_, hb⟩
  · obtain ⟨i, hi, rfl⟩ := hg r hr
    have hr := h i hi
    refine ⟨fun e => hr.1 (by rw [e]; rfl), up_of (fun j a b ha hb => ?_)⟩
    obtain ⟨_, ea⟩ := some_getD ha
    obtain ⟨hl, eb⟩ := some_getD hb
    have := (hr.2.2 (j + 1) hl).2.1 (by omega)
    rw [Nat.add_sub_cancel, ea, eb] at this
    exact this
  · by_cases hi : i + 1 < T.length
    · have hr := h (i + 1) hi
      refine dom_of (fun j b hb => ?_)
      obtain ⟨hl, eb⟩ := some_getD hb
      have h1 := hr.2.1 (by omega)
      rw [Nat.add_sub_cancel] at h1
      have h2 := (hr.2.2 j hl).2.2 (by omega)
      rw [Nat.add_sub_cancel, eb] at h2
      exact ⟨_, getD_some (by omega), h2⟩
    · have : T.getD (i + 1) [] = [] := by rw [List.getD_eq_getElem?_getD, List.getElem?_eq_none (by omega)]; rfl
      rw [this]; simp only [Dom]
  · obtain ⟨i, hi, rfl⟩ := hg r hr
    obtain ⟨j, hj, e⟩ := List.getElem_of_mem hx
    have := ((h i hi).2.2 j hj).1
    rwa [getD_get hj, e] at this
theorem FillOk.row {T : List (List Int)} (h : FillOk T) {i : Nat} (hi : i < T.length) : RowOk T i := by
  have hm : T.getD i [] ∈ T := by rw [getD_get hi]; exact List.getElem_mem hi
  refine ⟨fun e => h.1.ne _ hm (List.eq_nil_of_length_eq_zero e), fun h0 => ?_, fun j hj => ⟨?_, fun h0 => ?_, fun h0 => ?_⟩⟩
  · have := dom_len (h.1.dom (i - 1))
    rwa [show i - 1 + 1 = i by omega] at this
  · exact h.2.1 _ hm _ (by rw [getD_get hj]; exact List.getElem_mem hj)
  · obtain ⟨a, ha, hle⟩ := up_at (i := j - 1) (h.1.upD i) (b := (T.getD i []).getD j 0) (by rw [show j - 1 + 1 = j by omega]; exact getD_some hj)
    rw [(some_getD ha).2]; exact hle
  · have hd := h.1.dom (i - 1)
    rw [show i - 1 + 1 = i by omega] at hd
    obtain ⟨a, ha, hlt⟩ := dom_at hd (getD_some hj)
    rw [(some_getD ha).2]; exact hlt
theorem FillOk.small {T : List (List Int)} (h : FillOk T) : T.length ≤ 40 ∧ ∀ i, (T.getD i []).length ≤ 40 := by
  have h1 : ∀ (U : List (List Int)), (∀ r ∈ U, r ≠ []) → U.length ≤ boxes U := fun U => by
    induction U with
    | nil => intro _; simp
    | cons r t ih =>
      intro hu
      have := ih (fun s hs => hu s (List.mem_cons_of_mem _ hs))
      have h2 : r.length ≠ 0 := fun e => hu r (by simp) (List.eq_nil_of_length_eq_zero e)
      rw [boxes_cons]; simp; omega
  have h3 := h.2.2
  have h4 := h1 T h.1.ne
  refine ⟨by omega, fun i => ?_⟩
  by_cases hi : i < T.length
  · have h5 := boxes_take hi
    have h6 := boxes_le (T := T) (i + 1)
    omega
  · rw [List.getD_eq_getElem?_getD, List.getElem?_eq_none (by omega)]; simp
end Go.Proofs.YtmlmdklheiafpaaDoor
