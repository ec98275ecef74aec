/-
  Plain: ROBINSON, SCHENSTED, KNUTH: pairs into two tableaux, and out of them again.
-/
import Derived.Test.YtmlmdklheiafpaaBackM
import Derived.Test.YtmlmdklheiafpaaPlacS
import Derived.Test.YtmlmdklheiafpaaEvaP
namespace Go.Proofs.Ytmlmdklheiafpaa

def lastOf (r : List Int) : Int := r.getD (r.length - 1) 0
theorem last_snoc (r : List Int) (c : Int) : lastOf (r ++ [c]) = c := by simp [lastOf]
theorem last_mem {r : List Int} (h : r ≠ []) : lastOf r ∈ r := by
  have := List.length_pos_iff.2 h
  unfold lastOf
  rw [getD_get (by omega)]
  exact List.getElem_mem _
theorem last_max {r : List Int} (h : Up r) {x : Int} (hx : x ∈ r) : x ≤ lastOf r := by
  obtain ⟨i, hi, rfl⟩ := List.getElem_of_mem hx
  unfold lastOf
  rw [getD_get (by omega)]
  by_cases e : i = r.length - 1
  · simp only [← e]; exact Int.le_refl _
  · exact List.pairwise_iff_getElem.1 h i (r.length - 1) hi (by omega) (by omega)
/-- The row with the greatest letter, of several the first. -/
structure Sel (q : List (List Int)) (row : Nat) (most : Int) : Prop where
  inn : row < q.length
  here : lastOf (q.getD row []) = most
  top : ∀ a, a < q.length → lastOf (q.getD a []) ≤ most
  first : ∀ a, a < row → lastOf (q.getD a []) < most
theorem Sel.uniq {q : List (List Int)} {r r' : Nat} {m m' : Int} (h : Sel q r m) (h' : Sel q r' m') : r = r' ∧ m = m' := by
  have e1 := h.top r' h'.inn
  have e2 := h'.top r h.inn
  rw [h'.here] at e1
  rw [h.here] at e2
  have em : m = m' := by omega
  subst em
  refine ⟨?_, rfl⟩
  apply Classical.byContradiction
  intro hn
  by_cases c : r < r'
  · have := h'.first r c; rw [h.here] at this; omega
  · have := h.first r' (by omega); rw [h'.here] at this; omega
def popRow (q : List (List Int)) (row : Nat) : List (List Int) := if (q.getD row []).length = 1 then q.take row else q.set row (q.getD row []).dropLast
/-- Pairs taken out, the greatest first. -/
inductive Und : List (List Int) → List (List Int) → List (Int × Int) → Prop
  | nil (p : List (List Int)) : Und p [] []
  | step {p q : List (List Int)} {row : Nat} {most : Int} {m : List (Int × Int)} : Sel q row most → Und (unb p row).1 (popRow q row) m → Und p q (m ++ [(most, (unb p row).2)])
theorem Und.fn {p q : List (List Int)} {m m' : List (Int × Int)} (h : Und p q m) : Und p q m' → m = m' := by
  intro h'
  induction h generalizing m' with
  | nil p =>
    cases h' with
    | nil => rfl
    | step hs _ => have := hs.inn; simp at this
  | @step p q row most m hs _ ih =>
    cases h' with
    | nil => have := hs.inn; simp at this
    | step hs' h2 =>
      obtain ⟨rfl, rfl⟩ := hs.uniq hs'
      rw [ih h2]
theorem mem_getD {T : List (List Int)} {a : Nat} {x : Int} (h : x ∈ T.getD a []) : a < T.length ∧ T.getD a [] ∈ T := by
  have : a < T.length := by
    apply Classical.byContradiction
    intro hn
    rw [getD_far (by omega)] at h
    simp at h
  exact ⟨this, by rw [getD_get this]; exact List.getElem_mem _⟩
theorem Sel.all {q : List (List Int)} {row : Nat} {most : Int} (h : Sel q row most) (ht : Tab q) {a : Nat} {x : Int} (hx : x ∈ q.getD a []) : x ≤ most := by
  have h1 := last_max (ht.upD a) hx
  have h2 := h.top a (mem_getD hx).1
  omega
theorem Sel.corner {q : List (List Int)} {row : Nat} {most : Int} (h : Sel q row most) (ht : Tab q) : (q.getD (row + 1) []).length < (q.getD row []).length := by
  have hne : q.getD row [] ≠ [] := ht.ne _ (by rw [getD_get h.inn]; exact List.getElem_mem _)
  have hl := List.length_pos_iff.2 hne
  apply Classical.byContradiction
  intro hn
  have hb : (q.getD (row + 1) [])[(q.getD row []).length - 1]? = some ((q.getD (row + 1) [])[(q.getD row []).length - 1]'(by omega)) := List.getElem?_eq_getElem (by omega)
  obtain ⟨a, ha, hab⟩ := dom_at (ht.dom row) hb
  have h1 := h.all ht (List.mem_of_getElem? hb)
  have h2 : a = most := by
    rw [← h.here]
    unfold lastOf
    rw [List.getD_eq_getElem?_getD, ha]; rfl
  omega
theorem pop_getD {q : List (List Int)} {row : Nat} (hi : row < q.length) (hne : ∀ r ∈ q, r ≠ []) (hc : (q.getD (row + 1) []).length < (q.getD row []).length) (a : Nat) : (popRow q row).getD a [] = if a = row then (q.getD row []).dropLast else q.getD a [] := by
  unfold popRow
  by_cases e1 : (q.getD row []).length = 1
  · rw [if_pos e1]
    have hlast : row + 1 = q.length := by
      apply Classical.byContradiction
      intro hn
      have : row + 1 < q.length := by omega
      have h2 := hne (q.getD (row + 1) []) (by rw [getD_get this]; exact List.getElem_mem _)
      exact h2 (List.eq_nil_of_length_eq_zero (by omega))
    by_cases e : a = row
    · rw [if_pos e, getD_far (by rw [List.length_take]; omega)]
      exact (List.eq_nil_of_length_eq_zero (by rw [List.length_dropLast]; omega)).symm
    · rw [if_neg e]
      by_cases c : a < row
      · rw [List.getD_eq_getElem?_getD, List.getElem?_take_of_lt c, ← List.getD_eq_getElem?_getD]
      · rw [getD_far (by rw [List.length_take]; omega), getD_far (by omega)]
  · rw [if_neg e1]
    by_cases e : a = row
    · rw [if_pos e, e, List.getD_eq_getElem?_getD, List.getElem?_set_self hi]; rfl
    · rw [if_neg e, List.getD_eq_getElem?_getD, List.getElem?_set_ne (Ne.symm e), ← List.getD_eq_getElem?_getD]
theorem pop_ne {q : List (List Int)} {row : Nat} (hi : row < q.length) (hne : ∀ r ∈ q, r ≠ []) : ∀ r ∈ popRow q row, r ≠ [] := fun r hr => by
  unfold popRow at hr
  by_cases e1 : (q.getD row []).length = 1
  · rw [if_pos e1] at hr; exact hne r (List.mem_of_mem_take hr)
  · rw [if_neg e1] at hr
    rcases List.mem_or_eq_of_mem_set hr with h | h
    · exact hne r h
    · have h2 : 0 < (q.getD row []).length := List.length_pos_iff.2 (hne _ (by rw [getD_get hi]; exact List.getElem_mem _))
      rw [h]
      intro e
      have h3 : (q.getD row []).length - 1 = 0 := by rw [← List.length_dropLast, e]; rfl
      omega
theorem pop_len {q : List (List Int)} {row : Nat} (hi : row < q.length) : row ≤ (popRow q row).length := by
  unfold popRow
  by_cases e1 : (q.getD row []).length = 1
  · rw [if_pos e1, List.length_take]; omega
  · rw [if_neg e1, List.length_set]; omega
theorem drop_last (r : List Int) (h : r ≠ []) : r.dropLast ++ [lastOf r] = r := by
  conv => rhs; rw [← List.dropLast_concat_getLast h]
  congr 2
  have := List.length_pos_iff.2 h
  unfold lastOf
  rw [getD_get (by omega), List.getLast_eq_getElem]
theorem pop_qadd {q : List (List Int)} {row : Nat} {most : Int} (h : Sel q row most) (ht : Tab q) : qadd (popRow q row) row most = q := by
  refine rows_ext (qadd_ne (pop_ne h.inn ht.ne)) ht.ne (fun s => ?_)
  rw [qadd_getD (pop_len h.inn), pop_getD h.inn ht.ne (h.corner ht), pop_getD h.inn ht.ne (h.corner ht), if_pos rfl]
  by_cases e : s = row
  · rw [if_pos e, ← h.here, e]
    exact drop_last _ (ht.ne _ (by rw [getD_get h.inn]; exact List.getElem_mem _))
  · rw [if_neg e, if_neg e]
theorem pop_tab {q : List (List Int)} {row : Nat} {most : Int} (h : Sel q row most) (ht : Tab q) : Tab (popRow q row) := by
  have hg := pop_getD h.inn ht.ne (h.corner ht)
  have hc := h.corner ht
  refine tab_of (fun r hr => ⟨pop_ne h.inn ht.ne r hr, ?_⟩) (fun j => ?_)
  · obtain ⟨a, ha, rfl⟩ := List.getElem_of_mem hr
    rw [← getD_get (d := []) ha, hg]
    by_cases e : a = row
    · rw [if_pos e]; exact List.Pairwise.sublist (List.dropLast_sublist _) (ht.upD row)
    · rw [if_neg e]; exact ht.upD a
  · rw [hg, hg]
    have hd := ht.dom j
    by_cases e : j = row
    · rw [if_pos e, if_neg (by omega)]
      rw [e] at hd ⊢
      refine dom_of (fun i b hb => ?_)
      obtain ⟨a, ha, hab⟩ := dom_at hd hb
      have hi := (List.getElem?_eq_some_iff.1 hb).1
      refine ⟨a, ?_, hab⟩
      rw [List.getElem?_dropLast, if_pos (by omega)]; exact ha
    · rw [if_neg e]
      by_cases e2 : j + 1 = row
      · rw [if_pos e2]
        rw [e2] at hd
        refine dom_of (fun i b hb => ?_)
        rw [List.getElem?_dropLast] at hb
        split at hb
        · exact dom_at hd hb
        · simp at hb
      · rw [if_neg e2]; exact hd
/-- Rows alike long. -/
def SameSh (p q : List (List Int)) : Prop := ∀ a, (p.getD a []).length = (q.getD a []).length
theorem ins_len {T : List (List Int)} {x : Int} (a : Nat) : ((ins1 T x).getD a []).length = (T.getD a []).length + if a = irow T x then 1 else 0 := by
  obtain ⟨h1, h2⟩ := sh_ins1 T x
  rw [← sh_getD, h2, ← sh_getD T]
  unfold shadd
  rw [sh_length]
  by_cases e : irow T x = T.length
  · rw [if_pos e]
    by_cases e2 : a = irow T x
    · rw [if_pos e2, e2, e]
      rw [List.getD_eq_getElem?_getD, List.getElem?_append_right (by rw [sh_length]; omega), sh_length, getD_far (by rw [sh_length]; omega)]; simp
    · rw [if_neg e2]
      by_cases c : a < T.length
      · rw [List.getD_eq_getElem?_getD, List.getElem?_append_left (by rw [sh_length]; exact c), ← List.getD_eq_getElem?_getD]; rfl
      · rw [getD_far (by simp [sh_length]; omega), getD_far (by rw [sh_length]; omega)]
  · rw [if_neg e]
    by_cases e2 : a = irow T x
    · rw [if_pos e2, e2, List.getD_eq_getElem?_getD, List.getElem?_set_self (by rw [sh_length]; omega)]; rfl
    · rw [if_neg e2, List.getD_eq_getElem?_getD, List.getElem?_set_ne (Ne.symm e2), ← List.getD_eq_getElem?_getD]; rfl
theorem SameSh.len {p q : List (List Int)} (h : SameSh p q) (hp : ∀ r ∈ p, r ≠ []) (hq : ∀ r ∈ q, r ≠ []) : p.length = q.length := by
  have key : ∀ {A B : List (List Int)}, (∀ r ∈ A, r ≠ []) → SameSh A B → A.length ≤ B.length := fun {A B} hA hh => by
    apply Classical.byContradiction
    intro hn
    have h1 := hh B.length
    rw [getD_far (xs := B) (Nat.le_refl _), getD_get (show B.length < A.length by omega)] at h1
    exact hA _ (List.getElem_mem _) (List.eq_nil_of_length_eq_zero (by simpa using h1))
  exact Nat.le_antisymm (key hp h) (key hq (fun a => (h a).symm))
/-- What one step out does. -/
theorem out_step {p q : List (List Int)} {row : Nat} {most : Int} (hp : Tab p) (hq : Tab q) (hs : SameSh p q) (h : Sel q row most) : Tab (unb p row).1 ∧ ins1 (unb p row).1 (unb p row).2 = p ∧ irow (unb p row).1 (unb p row).2 = row ∧ SameSh (unb p row).1 (popRow q row) := by
  have hlen := hs.len hp.ne hq.ne
  have hc := h.corner hq
  rw [← hs, ← hs] at hc
  obtain ⟨h1, h2, h3⟩ := ins1_unb hp (by have := h.inn; omega) hc
  refine ⟨h1, h2, h3, fun a => ?_⟩
  have e1 := ins_len (T := (unb p row).1) (x := (unb p row).2) a
  rw [h2, h3, hs] at e1
  rw [pop_getD h.inn hq.ne (h.corner hq)]
  by_cases e : a = row
  · subst e
    rw [if_pos rfl] at e1 ⊢
    rw [List.length_dropLast]; omega
  · rw [if_neg e] at e1 ⊢
    omega
def LexLe (s t : Int × Int) : Prop := s.1 < t.1 ∨ (s.1 = t.1 ∧ s.2 ≤ t.2)
def Sorted (m : List (Int × Int)) : Prop := ∀ i, 0 < i → i < m.length → LexLe (m.getD (i - 1) (0, 0)) (m.getD i (0, 0))
theorem Sorted.snoc {m : List (Int × Int)} {s : Int × Int} (h : Sorted m) (hl : ∀ m' t, m = m' ++ [t] → LexLe t s) : Sorted (m ++ [s]) := fun i h0 hi => by
  rw [List.length_append, List.length_singleton] at hi
  have e1 : (m ++ [s]).getD (i - 1) (0, 0) = m.getD (i - 1) (0, 0) := by rw [List.getD_eq_getElem?_getD, List.getElem?_append_left (by omega), ← List.getD_eq_getElem?_getD]
  rw [e1]
  by_cases e : i = m.length
  · have e2 : (m ++ [s]).getD i (0, 0) = s := by rw [e]; simp
    rw [e2]
    have hne : m ≠ [] := fun e' => by rw [e'] at e; simp at e; omega
    have h3 := (List.dropLast_concat_getLast hne).symm
    have h4 := hl _ _ h3
    rw [getD_get (by omega)]
    have h5 : m.getLast hne = m[i - 1]'(by omega) := by rw [List.getLast_eq_getElem]; simp only [e]
    rwa [h5] at h4
  · have e2 : (m ++ [s]).getD i (0, 0) = m.getD i (0, 0) := by rw [List.getD_eq_getElem?_getD, List.getElem?_append_left (by omega), ← List.getD_eq_getElem?_getD]
    rw [e2]
    exact h i h0 (by omega)
def wB (m : List (Int × Int)) : List Int := m.map (·.2)
def wA (m : List (Int × Int)) : List Int := m.map (·.1)
theorem rec_app (xs cs xs' cs' : List Int) : ∀ i, i ≤ xs.length → i ≤ cs.length → recQ (xs ++ xs') (cs ++ cs') i = recQ xs cs i
  | 0, _, _ => rfl
  | i + 1, h, h2 => by
    simp only [recQ]
    rw [rec_app xs cs xs' cs' i (by omega) (by omega), List.take_append_of_le_length (by omega)]
    rw [List.getD_eq_getElem?_getD, List.getElem?_append_left (by omega), ← List.getD_eq_getElem?_getD, List.getD_eq_getElem?_getD (l := cs ++ cs'), List.getElem?_append_left (by omega), ← List.getD_eq_getElem?_getD]
theorem rec_snoc (m : List (Int × Int)) (s : Int × Int) : recQ (wB (m ++ [s])) (wA (m ++ [s])) (m.length + 1) = qadd (recQ (wB m) (wA m) m.length) (irow (insW [] (wB m)) s.2) s.1 := by
  have e1 : wB (m ++ [s]) = wB m ++ [s.2] := by simp [wB]
  have e2 : wA (m ++ [s]) = wA m ++ [s.1] := by simp [wA]
  have l1 : (wB m).length = m.length := by simp [wB]
  have l2 : (wA m).length = m.length := by simp [wA]
  rw [e1, e2]
  simp only [recQ]
  rw [rec_app _ _ _ _ m.length (by omega) (by omega), List.take_append_of_le_length (by omega), List.take_of_length_le (by omega)]
  congr 1
  · rw [← l1]; simp
  · rw [← l2]; simp
theorem ins_snoc (m : List (Int × Int)) (s : Int × Int) : insW [] (wB (m ++ [s])) = ins1 (insW [] (wB m)) s.2 := by
  have e1 : wB (m ++ [s]) = wB m ++ [s.2] := by simp [wB]
  rw [e1, insW_append]; rfl
/-- Out of two tableaux of one shape come pairs in order, and they go in again. -/
theorem und_good {p q : List (List Int)} {m : List (Int × Int)} (h : Und p q m) : Tab p → Tab q → SameSh p q → Sorted m ∧ insW [] (wB m) = p ∧ recQ (wB m) (wA m) m.length = q := by
  induction h with
  | nil p =>
    intro hp _ hs
    refine ⟨fun i h0 hi => by simp at hi, ?_, rfl⟩
    have := hs.len hp.ne (by simp)
    exact (List.eq_nil_of_length_eq_zero (by simpa using this)).symm
  | @step p q row most m hsel hu ih =>
    intro hp hq hs
    obtain ⟨h1, h2, h3, h4⟩ := out_step hp hq hs hsel
    have hq' := pop_tab hsel hq
    obtain ⟨g1, g2, g3⟩ := ih h1 hq' h4
    refine ⟨g1.snoc (fun m' t e => ?_), ?_, ?_⟩
    · subst e
      generalize hm2 : m' ++ [t] = m2 at hu
      obtain ⟨p', hp'⟩ : ∃ p', p' = (unb p row).1 := ⟨_, rfl⟩
      obtain ⟨q', hq''⟩ : ∃ q', q' = popRow q row := ⟨_, rfl⟩
      rw [← hp', ← hq''] at hu
      cases hu with
      | nil => simp at hm2
      | @step _ _ row' most' m3 hsel' hu' =>
        obtain ⟨_, e2⟩ := List.append_inj' hm2 rfl
        have e3 : t = (most', (unb p' row').2) := by simpa using e2
        rw [e3]
        rw [hq''] at hsel'
        have hpg := pop_getD hsel.inn hq.ne (hsel.corner hq)
        have hne : (popRow q row).getD row' [] ≠ [] := hq'.ne _ (by rw [getD_get hsel'.inn]; exact List.getElem_mem _)
        have hmm : most' ∈ (popRow q row).getD row' [] := by have := last_mem hne; rwa [hsel'.here] at this
        have hmem : most' ∈ q.getD row' [] := by
          rw [hpg] at hmm
          by_cases e : row' = row
          · rw [if_pos e] at hmm; rw [e]; exact (List.dropLast_sublist _).subset hmm
          · rwa [if_neg e] at hmm
        have hle := hsel.all hq hmem
        unfold LexLe
        by_cases em : most' = most
        · right
          refine ⟨em, ?_⟩
          have hrr : row ≤ row' := by
            apply Classical.byContradiction
            intro hn
            have h5 := hsel'.here
            rw [hpg, if_neg (by omega)] at h5
            have := hsel.first row' (by omega)
            omega
          rw [hp'] at hu' ⊢
          obtain ⟨k1, k2, k3, k4⟩ := out_step h1 hq' h4 hsel'
          apply Int.not_lt.1
          intro hlt
          have hb := bump_left (T := (unb (unb p row).1 row').1) hlt
          rw [k2, k3, h3] at hb
          omega
        · left; show most' < most; omega
    · rw [ins_snoc, g2]; exact h2
    · rw [List.length_append, List.length_singleton, rec_snoc, g2, g3, h3]
      exact pop_qadd hsel hq
end Go.Proofs.Ytmlmdklheiafpaa
