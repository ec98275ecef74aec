/-
  Plain: holes that slide out of a skew tableau; the word stays what it was but for KNUTH's steps.
-/
import Derived.Test.YtmlmdklheiafpaaPlacF
namespace Go.Proofs.Ytmlmdklheiafpaa

/-- The letters of rows with holes, the last row first. -/
def lets (r : List Int) : List Int := r.filter (fun x => decide (0 < x))
def sword (s : List (List Int)) : List Int := rword (s.map lets)
theorem lets_append (a b : List Int) : lets (a ++ b) = lets a ++ lets b := List.filter_append ..
theorem rword_append (a b : List (List Int)) : rword (a ++ b) = rword b ++ rword a := by
  induction a with
  | nil => simp [rword]
  | cons r t ih => simp only [List.cons_append, rword]; rw [ih]; simp
theorem sword_append (a b : List (List Int)) : sword (a ++ b) = sword b ++ sword a := by unfold sword; rw [List.map_append, rword_append]
theorem sword_cons (r : List Int) (t : List (List Int)) : sword (r :: t) = sword t ++ lets r := rfl

theorem pushW_Kn : ∀ (w : List Int) {s : List Int}, Up s → Kn (s ++ w) ((pushW s w).2 ++ (pushW s w).1)
  | [], s, _ => by simp only [pushW, List.append_nil, List.nil_append]; exact .refl _
  | x :: w, s, h => by
    have h1 := (push1_Kn (x := x) h).right w
    have h2 := (pushW_Kn w (push1_up (x := x) h)).left (push1 s x).2.toList
    simp only [pushW]
    have e1 : s ++ x :: w = s ++ [x] ++ w := by simp
    rw [e1, List.append_assoc]
    refine (by simpa using h1 : Kn (s ++ ([x] ++ w)) ((push1 s x).2.toList ++ ((push1 s x).1 ++ w))).trans ?_
    exact (by simpa using h2)
/-- A letter that goes up past what is to its right and what is to the left above. -/
theorem rise {x : Int} {z y : List Int} (hz : Up (x :: z)) (hy : Up y) (hxy : ∀ b ∈ y, x ≤ b) (hd : Dom y z) : ∀ (v u : List Int), v.length = u.length → (∀ (i : Nat) a b, u[i]? = some a → v[i]? = some b → a < b) → Up (v ++ x :: z) → Kn (v ++ (x :: z ++ (u ++ y))) (v ++ (z ++ (u ++ x :: y)))
  | [], [], _, _, _ => by
    have h1 := pushW_Kn y (s := x :: z) hz
    rw [pushW_head y (s := z) hxy, push_dom hy hd] at h1
    simpa using h1
  | [], _ :: _, h, _, _ => by simp at h
  | _ :: _, [], h, _, _ => by simp at h
  | a :: v, b :: u, hl, hab, hv => by
    have hba : b < a := hab 0 b a rfl rfl
    have ih := rise hz hy hxy hd v u (by simpa using hl) (fun i p q hp hq => hab (i + 1) p q (by simpa using hp) (by simpa using hq)) hv.tail
    have s1 := (slip (h := a) (x := b) (s := v ++ x :: z) hv hba).right (u ++ y)
    have hv2 : Up (a :: (v ++ z)) := List.Pairwise.sublist (List.Sublist.cons_cons _ (List.Sublist.append_left (List.sublist_cons_self _ _) _)) hv
    have s2 := (slip (h := a) (x := b) (s := v ++ z) hv2 hba).right (u ++ x :: y)
    have ih2 := ih.left [a, b]
    refine (by simpa using s1 : Kn (a :: v ++ (x :: z ++ (b :: u ++ y))) (a :: b :: (v ++ (x :: z ++ (u ++ y))))).trans ?_
    refine (by simpa using ih2 : Kn (a :: b :: (v ++ (x :: z ++ (u ++ y)))) (a :: b :: (v ++ (z ++ (u ++ x :: y))))).trans ?_
    exact (by simpa using s2.symm : Kn (a :: b :: (v ++ (z ++ (u ++ x :: y)))) (a :: v ++ (z ++ (b :: u ++ x :: y))))

/-- A cell; how long a row is. -/
def cell (s : List (List Int)) (i j : Nat) : Int := (s.getD i []).getD j 0
def rl (s : List (List Int)) (i : Nat) : Nat := (s.getD i []).length
def put (s : List (List Int)) (i j : Nat) (x : Int) : List (List Int) := s.set i ((s.getD i []).set j x)
theorem put_length (s : List (List Int)) (i j : Nat) (x : Int) : (put s i j x).length = s.length := by simp [put]
theorem put_row (s : List (List Int)) (i j : Nat) (x : Int) (k : Nat) : (put s i j x).getD k [] = if k = i then (s.getD i []).set j x else s.getD k [] := by
  unfold put
  by_cases e : k = i
  · subst e
    rw [if_pos rfl]
    by_cases h : k < s.length
    · rw [List.getD_eq_getElem?_getD, List.getElem?_set_self h]; rfl
    · have h1 : (s.set k ((s.getD k []).set j x)).getD k [] = [] := by rw [List.getD_eq_getElem?_getD, List.getElem?_eq_none (by simp; omega)]; rfl
      have h2 : s.getD k [] = [] := by rw [List.getD_eq_getElem?_getD, List.getElem?_eq_none (by omega)]; rfl
      rw [h1, h2]; rfl
  · rw [if_neg e, List.getD_eq_getElem?_getD, List.getElem?_set_ne (Ne.symm e), ← List.getD_eq_getElem?_getD]
theorem put_rl (s : List (List Int)) (i j : Nat) (x : Int) (k : Nat) : rl (put s i j x) k = rl s k := by
  unfold rl
  rw [put_row]
  by_cases e : k = i
  · rw [if_pos e, List.length_set, e]
  · rw [if_neg e]
theorem put_cell {s : List (List Int)} {i j : Nat} {x : Int} (hj : j < rl s i) (k q : Nat) : cell (put s i j x) k q = if k = i ∧ q = j then x else cell s k q := by
  unfold cell
  rw [put_row]
  by_cases e : k = i
  · rw [if_pos e]
    by_cases e2 : q = j
    · rw [if_pos ⟨e, e2⟩, e2, List.getD_eq_getElem?_getD, List.getElem?_set_self (by unfold rl at hj; exact hj)]; rfl
    · rw [if_neg (fun h => e2 h.2), List.getD_eq_getElem?_getD, List.getElem?_set_ne (Ne.symm e2), ← List.getD_eq_getElem?_getD, e]
  · rw [if_neg e, if_neg (fun h => e h.1)]

/-- Rows with holes at their beginnings. -/
structure Sk (s : List (List Int)) : Prop where
  ne : ∀ i, i < s.length → 0 < rl s i
  lens : ∀ i i', i ≤ i' → rl s i' ≤ rl s i
  row : ∀ i j k, j < k → k < rl s i → cell s i j ≤ cell s i k
  col : ∀ i i' j, i < i' → j < rl s i' → cell s i j < cell s i' j ∨ (cell s i j = 0 ∧ cell s i' j = 0)
  nn : ∀ i j, j < rl s i → 0 ≤ cell s i j
/-- A hole on its way. -/
structure Cfg (s : List (List Int)) (I J : Nat) : Prop where
  at_ : J < rl s I
  ne : ∀ i, i < s.length → 0 < rl s i
  lens : ∀ i i', i ≤ i' → rl s i' ≤ rl s i
  row : ∀ i j k, j < k → k < rl s i → ¬ (i = I ∧ j = J) → ¬ (i = I ∧ k = J) → cell s i j ≤ cell s i k
  col : ∀ i i' j, i < i' → j < rl s i' → ¬ (i = I ∧ j = J) → ¬ (i' = I ∧ j = J) → cell s i j < cell s i' j ∨ (cell s i j = 0 ∧ cell s i' j = 0)
  nn : ∀ i j, j < rl s i → ¬ (i = I ∧ j = J) → 0 ≤ cell s i j
  dn : ∀ i', I < i' → J < rl s i' → 0 < cell s i' J
  rt : ∀ k, J < k → k < rl s I → 0 < cell s I k
def right (s : List (List Int)) (i j : Nat) : Int := if j + 1 < rl s i then cell s i (j + 1) else 0
def below (s : List (List Int)) (i j : Nat) : Int := if j < rl s (i + 1) then cell s (i + 1) j else 0
theorem Cfg.start {s : List (List Int)} (h : Sk s) {I J : Nat} (hJ : J < rl s I) (h0 : cell s I J = 0) (hr : ∀ k, J < k → k < rl s I → 0 < cell s I k) (hd : ∀ i', I < i' → J < rl s i' → 0 < cell s i' J) : Cfg s I J ∧ put s I J 0 = s := by
  refine ⟨⟨hJ, h.ne, h.lens, fun i j k h1 h2 _ _ => h.row i j k h1 h2, fun i i' j h1 h2 _ _ => h.col i i' j h1 h2, fun i j h1 _ => h.nn i j h1, hd, hr⟩, ?_⟩
  have hI : I < s.length := by
    apply Classical.byContradiction
    intro hn
    have : rl s I = 0 := by unfold rl; rw [List.getD_eq_getElem?_getD, List.getElem?_eq_none (by omega)]; rfl
    omega
  unfold put
  apply List.ext_getElem (by simp)
  intro i h1 h2
  rw [List.getElem_set]
  by_cases e : I = i
  · subst e
    rw [if_pos rfl, getD_get hI]
    unfold cell at h0
    rw [getD_get hI] at h0
    unfold rl at hJ
    rw [getD_get hI] at hJ
    rw [getD_get hJ] at h0
    apply List.ext_getElem (by simp)
    intro j g1 g2
    rw [List.getElem_set]
    by_cases e2 : J = j
    · subst e2; rw [if_pos rfl, h0]
    · rw [if_neg e2]
  · rw [if_neg e]
theorem Cfg.inI {s : List (List Int)} {I J : Nat} (h : Cfg s I J) : I < s.length := by
  apply Classical.byContradiction
  intro hn
  have h1 := h.at_
  have : rl s I = 0 := by unfold rl; rw [List.getD_eq_getElem?_getD, List.getElem?_eq_none (by omega)]; rfl
  omega
theorem rl_in {s : List (List Int)} {i j : Nat} (h : j < rl s i) : i < s.length := by
  apply Classical.byContradiction
  intro hn
  have : rl s i = 0 := by unfold rl; rw [List.getD_eq_getElem?_getD, List.getElem?_eq_none (by omega)]; rfl
  omega
/-- The hole goes right. -/
theorem Cfg.goR {s : List (List Int)} {I J : Nat} (h : Cfg s I J) (hr : J + 1 < rl s I) (hb : ∀ c, J < rl s (I + 1) → c = cell s (I + 1) J → cell s I (J + 1) < c) : Cfg (put s I J (cell s I (J + 1))) I (J + 1) := by
  have pc := fun k q => put_cell (x := cell s I (J + 1)) h.at_ k q
  have pl := fun k => put_rl s I J (cell s I (J + 1)) k
  have hpos := h.rt (J + 1) (by omega) hr
  refine ⟨by rw [pl]; exact hr, fun i hi => by rw [pl]; exact h.ne i (by rw [put_length] at hi; exact hi), fun i i' hh => by rw [pl, pl]; exact h.lens i i' hh, fun i j k h1 h2 h3 h4 => ?_, fun i i' j h1 h2 h3 h4 => ?_, fun i j h1 h2 => ?_, fun i' h1 h2 => ?_, fun k h1 h2 => ?_⟩
  · rw [pl] at h2
    rw [pc, pc]
    by_cases e1 : i = I ∧ j = J
    · rw [if_pos e1, if_neg (by omega), e1.1]
      rw [e1.1] at h2
      exact h.row I (J + 1) k (by omega) h2 (by omega) (by omega)
    · rw [if_neg e1]
      by_cases e2 : i = I ∧ k = J
      · rw [if_pos e2, e2.1]
        exact h.row I j (J + 1) (by omega) hr (by omega) (by omega)
      · rw [if_neg e2]; exact h.row i j k h1 h2 e1 e2
  · rw [pl] at h2
    rw [pc, pc]
    by_cases e1 : i = I ∧ j = J
    · rw [if_pos e1, if_neg (by omega)]
      obtain ⟨e3, e4⟩ := e1
      subst e3 e4
      have hl := h.lens (i + 1) i' (by omega)
      have h5 := hb _ (by omega) rfl
      by_cases e5 : i' = i + 1
      · rw [e5]; exact .inl h5
      · rcases h.col (i + 1) i' j (by omega) h2 (by omega) (by omega) with h6 | h6
        · exact .inl (by omega)
        · have := h.dn (i + 1) (by omega) (by omega); omega
    · rw [if_neg e1]
      by_cases e2 : i' = I ∧ j = J
      · rw [if_pos e2]
        obtain ⟨e3, e4⟩ := e2
        subst e3 e4
        have hl := h.lens i i' (by omega)
        have h5 := h.row i j (j + 1) (by omega) (by omega) (by omega) (by omega)
        rcases h.col i i' (j + 1) h1 hr (by omega) (by omega) with h6 | h6
        · exact .inl (by omega)
        · omega
      · rw [if_neg e2]; exact h.col i i' j h1 h2 e1 e2
  · rw [pl] at h1
    rw [pc]
    by_cases e1 : i = I ∧ j = J
    · rw [if_pos e1]; omega
    · rw [if_neg e1]; exact h.nn i j h1 e1
  · rw [pl] at h2
    rw [pc, if_neg (by omega)]
    rcases h.col I i' (J + 1) h1 h2 (by omega) (by omega) with h6 | h6
    · omega
    · omega
  · rw [pl] at h2
    rw [pc, if_neg (by omega)]
    exact h.rt k (by omega) h2
/-- The hole goes down. -/
theorem Cfg.goD {s : List (List Int)} {I J : Nat} (h : Cfg s I J) (hd : J < rl s (I + 1)) (hb : J + 1 < rl s I → cell s (I + 1) J ≤ cell s I (J + 1)) : Cfg (put s I J (cell s (I + 1) J)) (I + 1) J := by
  have pc := fun k q => put_cell (x := cell s (I + 1) J) h.at_ k q
  have pl := fun k => put_rl s I J (cell s (I + 1) J) k
  have hpos := h.dn (I + 1) (by omega) hd
  refine ⟨by rw [pl]; exact hd, fun i hi => by rw [pl]; exact h.ne i (by rw [put_length] at hi; exact hi), fun i i' hh => by rw [pl, pl]; exact h.lens i i' hh, fun i j k h1 h2 h3 h4 => ?_, fun i i' j h1 h2 h3 h4 => ?_, fun i j h1 h2 => ?_, fun i' h1 h2 => ?_, fun k h1 h2 => ?_⟩
  · rw [pl] at h2
    rw [pc, pc]
    by_cases e1 : i = I ∧ j = J
    · rw [if_pos e1, if_neg (by omega)]
      obtain ⟨e3, e4⟩ := e1
      subst e3 e4
      have h5 := hb (by omega)
      by_cases e5 : k = j + 1
      · rw [e5]; exact h5
      · have := h.row i (j + 1) k (by omega) h2 (by omega) (by omega); omega
    · rw [if_neg e1]
      by_cases e2 : i = I ∧ k = J
      · rw [if_pos e2]
        obtain ⟨e3, e4⟩ := e2
        subst e3 e4
        have h5 := h.row (i + 1) j k h1 hd (by omega) (by omega)
        rcases h.col i (i + 1) j (by omega) (by omega) (by omega) (by omega) with h6 | h6
        · omega
        · omega
      · rw [if_neg e2]; exact h.row i j k h1 h2 e1 e2
  · rw [pl] at h2
    rw [pc, pc]
    by_cases e1 : i = I ∧ j = J
    · rw [if_pos e1, if_neg (by omega)]
      obtain ⟨e3, e4⟩ := e1
      subst e3 e4
      rcases h.col (i + 1) i' j (by omega) h2 (by omega) (by omega) with h6 | h6
      · exact .inl h6
      · omega
    · rw [if_neg e1]
      by_cases e2 : i' = I ∧ j = J
      · rw [if_pos e2]
        obtain ⟨e3, e4⟩ := e2
        subst e3 e4
        rcases h.col i (i' + 1) j (by omega) hd (by omega) (by omega) with h6 | h6
        · exact .inl h6
        · omega
      · rw [if_neg e2]; exact h.col i i' j h1 h2 e1 e2
  · rw [pl] at h1
    rw [pc]
    by_cases e1 : i = I ∧ j = J
    · rw [if_pos e1]; omega
    · rw [if_neg e1]; exact h.nn i j h1 e1
  · rw [pl] at h2
    rw [pc, if_neg (by omega)]
    exact h.dn i' (by omega) h2
  · rw [pl] at h2
    rw [pc, if_neg (by omega)]
    have := h.row (I + 1) J k h1 h2 (by omega) (by omega)
    omega
end Go.Proofs.Ytmlmdklheiafpaa
