/-
  Plain: a word of unlike letters read from behind has the tableau turned over.
-/
import Derived.Test.YtmlmdklheiafpaaPlacS
namespace Go.Proofs.Ytmlmdklheiafpaa

theorem ctab_rep {T cs : List (List Int)} (h : Tab T) (hr : Rep T cs) : CTab cs := by
  refine ctab_of (fun c hc => ⟨hr.col c hc, ?_⟩) (fun j => cdom_of (fun i b hb => ?_))
  · obtain ⟨j, hj, e⟩ := List.getElem_of_mem hc
    have g : cs.getD j [] = c := by rw [getD_get hj]; exact e
    refine dn_of (fun i a b ha hb => ?_)
    rw [← g, ← hr.ent] at ha hb
    obtain ⟨a', ha', hlt⟩ := dom_at (h.dom i) hb
    rw [ha] at ha'
    obtain rfl : a = a' := by simpa using ha'
    exact hlt
  · rw [← hr.ent] at hb
    obtain ⟨a, ha, hle⟩ := up_at (h.upD i) hb
    exact ⟨a, by rw [← hr.ent]; exact ha, hle⟩
theorem cpush_push {c : List Int} {y : Int} (h : y ∉ c) : cpush1 c y = push1 c y := by
  induction c with
  | nil => rfl
  | cons a c ih =>
    have h1 : y ≠ a := fun e => h (by rw [e]; simp)
    by_cases k : y < a
    · rw [cpush1_le (by omega), push1_lt k]
    · rw [cpush1_gt (by omega), push1_ge (by omega), ih (fun e => h (List.mem_cons_of_mem _ e))]
theorem cins_ins : ∀ {cs : List (List Int)} {y : Int}, (y :: cs.flatten).Nodup → cins1 cs y = ins1 cs y
  | [], _, _ => rfl
  | c :: cs, y, h => by
    rw [List.flatten_cons] at h
    have h1 := List.nodup_cons.1 h
    have hy : y ∉ c := fun e => h1.1 (List.mem_append_left _ e)
    have h2 := List.nodup_append.1 h1.2
    simp only [cins1, ins1]
    rw [cpush_push hy]
    cases e : (push1 c y).2 with
    | none => rfl
    | some z =>
      have hz := (push1_out e).1
      show _ :: cins1 cs z = _ :: ins1 cs z
      rw [cins_ins (List.nodup_cons.2 ⟨fun e => h2.2.2 z hz z e rfl, h2.2.1⟩)]
theorem Kn.perm {a b : List Int} (h : Kn a b) : a.Perm b := by
  induction h with
  | refl w => exact .refl _
  | step u v k =>
    refine List.Perm.append_right _ (List.Perm.append_left _ ?_)
    cases k with
    | a x y z _ _ => exact List.Perm.cons _ (List.Perm.swap _ _ _)
    | b x y z _ _ => exact List.Perm.swap _ _ _
  | symm _ ih => exact ih.symm
  | trans _ _ ih1 ih2 => exact ih1.trans ih2
theorem rword_flat : ∀ (T : List (List Int)), (rword T).Perm T.flatten
  | [] => .refl _
  | r :: t => by
    simp only [rword, List.flatten_cons]
    exact List.perm_append_comm.trans (List.Perm.append_left r (rword_flat t))
theorem made_flat (w : List Int) : (insW [] w).flatten.Perm w := by
  have h1 : Kn w (rword (insW [] w)) := by
    have := insW_word w (T := []) (fun r hr => by simp at hr)
    simpa [rword] using this
  exact ((rword_flat _).symm).trans h1.perm.symm
theorem fill_rep {T : List (List Int)} (h : Tab T) : Rep (fillC [] T) T := by
  have := Rep.fill T Rep.nil h.ne (by simpa using h.lens.1)
  simpa using this
theorem cfill_rep {cs : List (List Int)} (h : CTab cs) : Rep (fillC [] cs) cs := by
  have := Rep.fill cs Rep.nil h.ne (by simpa using h.lens.1)
  simpa using this
theorem rev_rep : ∀ (w : List Int), w.Nodup → Rep (insW [] w) (insW [] w.reverse)
  | [], _ => Rep.nil
  | y :: w, h => by
    have hn := List.nodup_cons.1 h
    have ih := rev_rep w hn.2
    have ht : Tab (insW [] w) := insW_tab w trivial
    have hc := ctab_rep ht ih
    have e1 : insW [] (y :: w).reverse = ins1 (insW [] w.reverse) y := by
      rw [List.reverse_cons, insW_append]; rfl
    have hp : (insW [] w.reverse).flatten.Perm w := (made_flat _).trans (List.reverse_perm w)
    have hnd : (y :: (insW [] w.reverse).flatten).Nodup := List.nodup_cons.2 ⟨fun e => hn.1 (hp.mem_iff.1 e), hp.nodup_iff.2 hn.2⟩
    rw [e1, ← cins_ins hnd]
    have hr := cfill_rep (cins1_tab (x := y) hc)
    have h2 := left_made ih hc hr
    have h3 : insW [] (y :: rword (insW [] w)) = insW [] (y :: w) := by
      refine insW_Kn0 _ (Nat.le_refl _) (Kn.cons y ?_)
      have := insW_word w (T := []) (fun r hr => by simp at hr)
      simpa [rword] using this.symm
    rw [h3] at h2
    rw [← h2]
    exact hr
/-- Read from behind: turned over. -/
theorem mirror_rev {w : List Int} (h : w.Nodup) : insW [] w.reverse = fillC [] (insW [] w) :=
  (rev_rep w h).symm.uniq (fill_rep (insW_tab w trivial))
theorem addCol_len : ∀ (c : List Int), (addCol [] c).length = c.length
  | [] => rfl
  | b :: c => by simp only [addCol, List.length_cons]; rw [addCol_len c]
theorem addCol_keep : ∀ (U : List (List Int)) (c : List Int), c.length ≤ U.length → (addCol U c).length = U.length
  | U, [], _ => by simp [addCol]
  | [], _ :: _, h => by simp at h
  | s :: U, b :: c, h => by simp only [addCol, List.length_cons]; rw [addCol_keep U c (by simpa using h)]
/-- One box more of the row. -/
theorem addCol_step : ∀ (U : List (List Int)) (r : List Int) {j : Nat} {x : Int}, r[j]? = some x → (U = [] ∨ r.length ≤ U.length) → addCol U (r.take (j + 1)) = qadd (addCol U (r.take j)) j x
  | _, [], _, _, h, _ => by simp at h
  | [], b :: r, 0, x, h, _ => by
    obtain rfl : b = x := by simpa using h
    simp [addCol, qadd]
  | [], b :: r, j + 1, x, h, _ => by
    have ih := addCol_step [] r (j := j) (x := x) (by simpa using h) (.inl rfl)
    simp only [List.take_succ_cons, addCol]
    rw [ih]
    unfold qadd
    by_cases e : j = (addCol [] (r.take j)).length
    · rw [if_pos e, if_pos (by rw [List.length_cons]; omega)]; rfl
    · rw [if_neg e, if_neg (by rw [List.length_cons]; omega)]; simp
  | s :: U, b :: r, 0, x, h, _ => by
    obtain rfl : b = x := by simpa using h
    simp [addCol, qadd]
  | s :: U, b :: r, j + 1, x, h, hl => by
    have hl2 : r.length ≤ U.length := by
      rcases hl with e | e
      · cases e
      · simpa using e
    have ih := addCol_step U r (j := j) (x := x) (by simpa using h) (.inr hl2)
    simp only [List.take_succ_cons, addCol]
    rw [ih]
    unfold qadd
    by_cases e : j = (addCol U (r.take j)).length
    · rw [if_pos e, if_pos (by rw [List.length_cons]; omega)]; rfl
    · rw [if_neg e, if_neg (by rw [List.length_cons]; omega)]; simp
theorem fillC_snoc (U T : List (List Int)) (r : List Int) : fillC U (T ++ [r]) = addCol (fillC U T) r := by
  unfold fillC; rw [List.foldl_append]; rfl
theorem fillC_take {T : List (List Int)} {i : Nat} (h : i < T.length) : fillC [] (T.take (i + 1)) = addCol (fillC [] (T.take i)) (T.getD i []) := by
  rw [take_snoc h, fillC_snoc, getD_get h]
theorem tab_take : ∀ {T : List (List Int)} (i : Nat), Tab T → Tab (T.take i)
  | [], i, _ => by simp [Tab]
  | r :: t, 0, _ => trivial
  | r :: t, i + 1, h => by
    refine ⟨h.1, h.2.1, ?_, tab_take i h.2.2.2⟩
    cases i with
    | zero => simp [Dom]
    | succ i =>
      cases t with
      | nil => simp [Dom]
      | cons s t => exact h.2.2.1
/-- How high what has been laid stands. -/
theorem fill_high {T : List (List Int)} (h : Tab T) {i : Nat} (hi : i < T.length) : fillC [] (T.take i) = [] ∧ i = 0 ∨ (T.getD i []).length ≤ (fillC [] (T.take i)).length ∧ i ≠ 0 := by
  by_cases h0 : i = 0
  · subst h0; exact .inl ⟨rfl, rfl⟩
  · refine .inr ⟨?_, h0⟩
    rw [(fill_rep (tab_take i h)).height]
    have h1 : (T.take i).getD 0 [] = T.headD [] := by
      cases T with
      | nil => simp at hi
      | cons r t =>
        obtain ⟨k, rfl⟩ : ∃ k, i = k + 1 := ⟨i - 1, by omega⟩
        simp
    rw [h1]
    exact h.lens.2 _ (by rw [getD_get hi]; exact List.getElem_mem hi)
theorem fill_short {T : List (List Int)} (h : FillOk T) (i : Nat) : (fillC [] (T.take i)).length ≤ 40 ∧ ∀ j, ((fillC [] (T.take i)).getD j []).length ≤ 40 := by
  have hr := fill_rep (tab_take i h.1)
  have h1 := hr.height
  have h2 := h.small
  refine ⟨?_, fun j => ?_⟩
  · rw [h1]
    have : ((T.take i).getD 0 []).length ≤ (T.getD 0 []).length := by
      cases T with
      | nil => simp
      | cons r t => cases i <;> simp
    have := h2.2 0
    omega
  · by_cases c : j < (fillC [] (T.take i)).length
    · apply Classical.byContradiction
      intro hn
      have h3 := hr.ent j 40
      rw [List.getElem?_eq_getElem (by omega)] at h3
      have h4 : (T.take i).length ≤ 40 := by rw [List.length_take]; omega
      rw [List.getD_eq_getElem?_getD (l := T.take i), List.getElem?_eq_none h4] at h3
      simp at h3
    · rw [List.getD_eq_getElem?_getD, List.getElem?_eq_none (by omega)]; simp
end Go.Proofs.Ytmlmdklheiafpaa
