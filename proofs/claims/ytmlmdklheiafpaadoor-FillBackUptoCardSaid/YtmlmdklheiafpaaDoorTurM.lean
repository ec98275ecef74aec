/-
  Plain: rows and columns changed twice.
-/
import Derived.Test.YtmlmdklheiafpaaDoorPlacT
namespace Go.Proofs.YtmlmdklheiafpaaDoor

theorem dn_nodup {c : List Int} (h : Dn c) : c.Nodup := h.imp (fun {a b} g e => by omega)
theorem strict_row {T : List (List Int)} (h : Tab T) (hs : ∀ r ∈ T, r.Nodup) {i j : Nat} {b : Int} (hb : (T.getD i [])[j + 1]? = some b) : ∃ a, (T.getD i [])[j]? = some a ∧ a < b := by
  obtain ⟨a, ha, hle⟩ := up_at (h.upD i) hb
  refine ⟨a, ha, ?_⟩
  have hi : i < T.length := by
    refine Classical.byContradiction fun g => ?_
    rw [List.getD_eq_getElem?_getD (l := T), List.getElem?_eq_none (l := T) (i := i) (by omega)] at hb
    simp at hb
  have hm : T.getD i [] ∈ T := by rw [getD_get hi]; exact List.getElem_mem hi
  have hn := hs _ hm
  obtain ⟨h1, e1⟩ := List.getElem?_eq_some_iff.1 ha
  obtain ⟨h2, e2⟩ := List.getElem?_eq_some_iff.1 hb
  have : a ≠ b := fun e => by
    rw [← e1, ← e2] at e
    have := (List.getElem_inj hn).1 e
    omega
  omega
theorem turn_ok {T : List (List Int)} (h : FillOk T) (hs : ∀ r ∈ T, r.Nodup) : FillOk (fillC [] T) ∧ (∀ r ∈ fillC [] T, r.Nodup) ∧ fillC [] (fillC [] T) = T := by
  have hr := fill_rep h.1
  have hsh := fill_short h T.length
  rw [List.take_length] at hsh
  obtain ⟨U, hU⟩ : ∃ U, U = fillC [] T := ⟨_, rfl⟩
  have hbx : boxes U = boxes T := by
    have h1 := fill_top 40 T []
    rw [← hU] at h1
    rw [List.take_of_length_le (by rw [hU]; exact hsh.1)] at h1
    rw [h1]
    have h2 : ∀ (V : List (List Int)), (∀ c ∈ V, c.length ≤ 40) → (V.map (fun c => min 40 c.length)).sum = boxes V := fun V => by
      induction V with
      | nil => intro _; rfl
      | cons c V ih =>
        intro g
        rw [List.map_cons, List.sum_cons, boxes_cons, ih (fun d hd => g d (List.mem_cons_of_mem _ hd))]
        have := g c (by simp)
        omega
    rw [h2 T (fun c hc => by
      obtain ⟨i, hi, e⟩ := List.getElem_of_mem hc
      have := h.small.2 i
      rwa [getD_get hi, e] at this)]
    simp [boxes]
  rw [← hU] at hr ⊢
  have hg : ∀ c ∈ U, ∃ j, U.getD j [] = c := fun c hc => by
    obtain ⟨j, hj, e⟩ := List.getElem_of_mem hc
    exact ⟨j, by rw [getD_get hj]; exact e⟩
  have hdn : ∀ c ∈ U, Dn c := fun c hc => by
    obtain ⟨j, rfl⟩ := hg c hc
    refine dn_of (fun i a b ha hb => ?_)
    rw [hr.ent] at ha hb
    obtain ⟨a', ha', hlt⟩ := dom_at (h.1.dom i) hb
    rw [ha] at ha'
    obtain rfl := Option.some.inj ha'
    exact hlt
  have ht : Tab U := by
    refine tab_of (fun c hc => ⟨hr.row c hc, (hdn c hc).imp (fun {a b} g => by omega)⟩) (fun j => dom_of (fun i b hb => ?_))
    rw [hr.ent] at hb
    obtain ⟨a, ha, hlt⟩ := strict_row h.1 hs hb
    exact ⟨a, by rw [hr.ent]; exact ha, hlt⟩
  refine ⟨⟨ht, fun c hc x hx => ?_, by rw [hbx]; exact h.2.2⟩, fun c hc => dn_nodup (hdn c hc), ?_⟩
  · obtain ⟨j, rfl⟩ := hg c hc
    obtain ⟨i, hi, e⟩ := List.getElem_of_mem hx
    have e1 : (U.getD j [])[i]? = some x := by rw [List.getElem?_eq_getElem hi, e]
    rw [hr.ent] at e1
    obtain ⟨h2, e2⟩ := List.getElem?_eq_some_iff.1 e1
    by_cases hi2 : i < T.length
    · have hm : T.getD i [] ∈ T := by rw [getD_get hi2]; exact List.getElem_mem hi2
      exact h.2.1 _ hm x (by rw [← e2]; exact List.getElem_mem h2)
    · rw [List.getD_eq_getElem?_getD (l := T), List.getElem?_eq_none (l := T) (i := i) (by omega)] at e1
      simp at e1
  · exact (fill_rep ht).uniq hr.symm
end Go.Proofs.YtmlmdklheiafpaaDoor
