/-
  Plain: the hole's way down keeps the word up to KNUTH's steps.
-/
import Derived.Test.YtmlmdklheiafpaaPlacU
namespace Go.Proofs.Ytmlmdklheiafpaa

theorem lets_pos {l : List Int} (h : ∀ x ∈ l, 0 < x) : lets l = l := List.filter_eq_self.2 (fun x hx => decide_eq_true (h x hx))
theorem lets_cons (x : Int) (l : List Int) : lets (x :: l) = if 0 < x then x :: lets l else lets l := by
  unfold lets; rw [List.filter_cons]; by_cases h : 0 < x <;> simp [h]
theorem lets_split : ∀ {l : List Int}, Up l → (∀ x ∈ l, 0 ≤ x) → ∃ p, p ≤ l.length ∧ lets l = l.drop p ∧ (∀ x ∈ l.take p, x = 0) ∧ ∀ x ∈ l.drop p, 0 < x
  | [], _, _ => ⟨0, Nat.le_refl _, rfl, by simp, by simp⟩
  | a :: t, hu, h0 => by
    by_cases ha : 0 < a
    · have hp : ∀ x ∈ a :: t, 0 < x := fun x hx => by
        rcases List.mem_cons.1 hx with e | e
        · rw [e]; exact ha
        · have := hu.head x e; omega
      exact ⟨0, Nat.zero_le _, by rw [lets_pos hp]; rfl, by simp, hp⟩
    · obtain ⟨p, h1, h2, h3, h4⟩ := lets_split hu.tail (fun x hx => h0 x (List.mem_cons_of_mem _ hx))
      refine ⟨p + 1, by simp; omega, by rw [lets_cons, if_neg ha, h2]; rfl, fun x hx => ?_, h4⟩
      rcases List.mem_cons.1 (by simpa using hx) with e | e
      · have := h0 a (by simp); omega
      · exact h3 x e
/-- Two rows, one above the other: the hole goes down. -/
theorem down_two {u0 v0 y z : List Int} {x : Int} (hl : u0.length = v0.length) (hu : Up u0) (hu0 : ∀ a ∈ u0, 0 ≤ a) (hv : Up (v0 ++ x :: z)) (hx : 0 < x) (hy : Up y) (hxy : ∀ b ∈ y, x ≤ b) (hd : Dom y z)
    (hc : ∀ (i : Nat) a b, u0[i]? = some a → v0[i]? = some b → a < b ∨ (a = 0 ∧ b = 0)) : Kn (lets (v0 ++ x :: z) ++ lets (u0 ++ 0 :: y)) (lets (v0 ++ 0 :: z) ++ lets (u0 ++ x :: y)) := by
  obtain ⟨p, hp, e1, e2, e3⟩ := lets_split hu hu0
  have hxz : Up (x :: z) := List.Pairwise.sublist (List.sublist_append_right _ _) hv
  have hzp : ∀ b ∈ z, 0 < b := fun b hb => by have := hxz.head b hb; omega
  have hyp : ∀ b ∈ y, 0 < b := fun b hb => by have := hxy b hb; omega
  have hvp : ∀ b ∈ v0.drop p, 0 < b := fun b hb => by
    obtain ⟨i, hi, rfl⟩ := List.getElem_of_mem hb
    have hi2 : i < (u0.drop p).length := by rw [List.length_drop] at hi ⊢; omega
    have h1 := e3 _ (List.getElem_mem hi2)
    rw [List.getElem_drop] at h1 ⊢
    rw [List.length_drop] at hi hi2
    rcases hc (p + i) _ _ (List.getElem?_eq_getElem (by omega)) (List.getElem?_eq_getElem (by omega)) with h2 | h2
    · omega
    · omega
  have ev : lets v0 = lets (v0.take p) ++ v0.drop p := by
    conv => lhs; rw [← List.take_append_drop p v0, lets_append]
    rw [lets_pos hvp]
  have hs : Up (v0.drop p ++ x :: z) := List.Pairwise.sublist (List.Sublist.append_right (List.drop_sublist p v0) _) hv
  have h1 := (rise (u := u0.drop p) hxz hy hxy hd (v0.drop p) (by rw [List.length_drop, List.length_drop]; omega) (fun i a b ha hb => by
    have ha2 : u0[p + i]? = some a := by rw [← ha, List.getElem?_drop]
    have hb2 : v0[p + i]? = some b := by rw [← hb, List.getElem?_drop]
    rcases hc _ a b ha2 hb2 with h | h
    · exact h
    · have := e3 a (List.mem_of_getElem? ha); omega) hs).left (lets (v0.take p))
  rw [lets_append, lets_append, lets_append, lets_append, lets_cons, if_pos hx, lets_cons, if_neg (by omega), lets_cons, if_neg (by omega), lets_cons, if_pos hx, lets_pos hzp, lets_pos hyp, ev, e1]
  simpa using h1
theorem put_at (a : List (List Int)) (r : List Int) (b : List (List Int)) (J : Nat) (y : Int) : put (a ++ r :: b) a.length J y = a ++ r.set J y :: b := by
  unfold put
  have : (a ++ r :: b).getD a.length [] = r := by rw [List.getD_eq_getElem?_getD, List.getElem?_append_right (Nat.le_refl _)]; simp
  rw [this, List.set_append_right _ _ (Nat.le_refl _)]; simp
theorem put_at2 (a : List (List Int)) (r r' : List Int) (b : List (List Int)) (J : Nat) (y : Int) : put (a ++ r :: r' :: b) (a.length + 1) J y = a ++ r :: r'.set J y :: b := by
  have := put_at (a ++ [r]) r' b J y
  simpa using this
theorem rows_split {s : List (List Int)} {i : Nat} (h : i < s.length) : s = s.take i ++ s.getD i [] :: s.drop (i + 1) := by
  conv => lhs; rw [← List.take_append_drop i s, List.drop_eq_getElem_cons h]
  rw [getD_get h]
theorem rows_split2 {s : List (List Int)} {i : Nat} (h : i + 1 < s.length) : ∃ b, s = s.take i ++ s.getD i [] :: s.getD (i + 1) [] :: b := by
  refine ⟨s.drop (i + 2), ?_⟩
  conv => lhs; rw [rows_split (show i < s.length by omega), List.drop_eq_getElem_cons h]
  rw [getD_get h]
theorem row_split {r : List Int} {j : Nat} (h : j < r.length) : r = r.take j ++ r.getD j 0 :: r.drop (j + 1) := by
  conv => lhs; rw [← List.take_append_drop j r, List.drop_eq_getElem_cons h]
  rw [getD_get h]
theorem set_split (r : List Int) {j : Nat} (h : j < r.length) (y : Int) : r.set j y = r.take j ++ y :: r.drop (j + 1) := by
  rw [List.set_eq_take_append_cons_drop, if_pos h]
theorem up_get {l : List Int} (h : ∀ j k, j < k → k < l.length → l.getD j 0 ≤ l.getD k 0) : Up l := List.pairwise_iff_getElem.2 (fun j k hj hk hjk => by
  have := h j k hjk hk
  rwa [getD_get hj, getD_get hk] at this)
/-- The word while a hole is on its way. -/
def hword (s : List (List Int)) (I J : Nat) : List Int := sword (put s I J 0)
theorem set_two (r : List Int) {j : Nat} (h : j + 1 < r.length) : lets ((r.set j (r.getD (j + 1) 0)).set (j + 1) 0) = lets (r.set j 0) := by
  rw [set_split r (show j < r.length by omega) 0, set_split (r.set j _) (by simp; exact h) 0, List.take_set, List.drop_set_of_lt (by omega)]
  have e1 : (r.take (j + 1)).set j (r.getD (j + 1) 0) = r.take j ++ [r.getD (j + 1) 0] := by
    rw [set_split _ (by simp; omega)]
    have : List.drop (j + 1) (List.take (j + 1) r) = [] := List.drop_eq_nil_of_le (by simp; omega)
    rw [this, List.take_take, Nat.min_eq_left (by omega)]
  have e2 : r.drop (j + 1) = r.getD (j + 1) 0 :: r.drop (j + 2) := by rw [getD_get h]; exact List.drop_eq_getElem_cons h
  rw [e1, e2]
  simp only [List.append_assoc, lets_append, List.cons_append, List.nil_append, lets_cons, Int.lt_irrefl, if_false]
theorem Cfg.wordR {s : List (List Int)} {I J : Nat} (h : Cfg s I J) (hr : J + 1 < rl s I) : hword (put s I J (cell s I (J + 1))) I (J + 1) = hword s I J := by
  have hI := h.inI
  have hs := rows_split hI
  obtain ⟨r, hr0⟩ : ∃ r, r = s.getD I [] := ⟨_, rfl⟩
  have hl : (s.take I).length = I := by rw [List.length_take]; omega
  unfold hword cell
  unfold rl at hr
  rw [← hr0] at hr hs ⊢
  obtain ⟨a, ha⟩ : ∃ a, a = s.take I := ⟨_, rfl⟩
  obtain ⟨b, hb⟩ : ∃ b, b = s.drop (I + 1) := ⟨_, rfl⟩
  rw [← ha, ← hb] at hs
  rw [← ha] at hl
  rw [hs, ← hl, put_at, put_at, put_at, sword_append, sword_append, sword_cons, sword_cons, set_two r hr]
theorem Cfg.wordD {s : List (List Int)} {I J : Nat} (h : Cfg s I J) (hd : J < rl s (I + 1)) (hb : J + 1 < rl s I → cell s (I + 1) J ≤ cell s I (J + 1)) : Kn (hword s I J) (hword (put s I J (cell s (I + 1) J)) (I + 1) J) := by
  have hI := rl_in hd
  obtain ⟨b, hs⟩ := rows_split2 hI
  have hx := h.dn (I + 1) (by omega) hd
  have hat := h.at_
  have hlen := h.lens I (I + 1) (by omega)
  have hrow := h.row I
  have hrow' := h.row (I + 1)
  have hcol := fun j => h.col I (I + 1) j (by omega)
  have hnn := h.nn I
  have hrt := h.rt
  unfold hword
  unfold cell rl at *
  have hl : (s.take I).length = I := by rw [List.length_take]; omega
  obtain ⟨r, hr⟩ : ∃ r, r = s.getD I [] := ⟨_, rfl⟩
  obtain ⟨r', hr'⟩ : ∃ r', r' = s.getD (I + 1) [] := ⟨_, rfl⟩
  obtain ⟨a, ha⟩ : ∃ a, a = s.take I := ⟨_, rfl⟩
  rw [← hr] at hs hlen hrow hcol hnn hrt hat hb
  rw [← hr'] at hs hlen hrow' hcol hb hx hd ⊢
  rw [← ha] at hs hl
  rw [hs, ← hl, put_at, put_at, put_at2, sword_append, sword_append, sword_cons, sword_cons, sword_cons, sword_cons]
  clear hr hr' ha hs
  have key : Kn (lets r' ++ lets (r.set J 0)) (lets (r'.set J 0) ++ lets (r.set J (r'.getD J 0))) := by
    rw [set_split r hat, set_split r hat, set_split r' hd]
    conv => arg 1; rw [row_split hd]
    refine down_two (by rw [List.length_take, List.length_take]; omega) (up_get (fun j k hjk hk => ?_)) (fun x hx => ?_) ?_ hx (up_get (fun j k hjk hk => ?_)) (fun x hx => ?_) (dom_of (fun j x hx => ?_)) (fun j p q hp hq => ?_)
    · rw [List.length_take] at hk
      rw [getD_get (by simp; omega), getD_get (by simp; omega), List.getElem_take, List.getElem_take]
      have := hrow j k hjk (by omega) (by omega) (by omega)
      rwa [getD_get (by omega), getD_get (by omega)] at this
    · obtain ⟨j, hj, rfl⟩ := List.getElem_of_mem hx
      rw [List.length_take] at hj
      rw [List.getElem_take]
      have := hnn j (by omega) (by omega)
      rwa [getD_get (by omega)] at this
    · rw [← row_split hd]
      exact up_get (fun j k hjk hk => hrow' j k hjk hk (by omega) (by omega))
    · rw [List.length_drop] at hk
      rw [getD_get (by simp; omega), getD_get (by simp; omega), List.getElem_drop, List.getElem_drop]
      have := hrow (J + 1 + j) (J + 1 + k) (by omega) (by omega) (by omega) (by omega)
      rwa [getD_get (by omega), getD_get (by omega)] at this
    · obtain ⟨j, hj, rfl⟩ := List.getElem_of_mem hx
      rw [List.length_drop] at hj
      rw [List.getElem_drop]
      have h1 := hb (by omega)
      have h2 : r.getD (J + 1) 0 ≤ r.getD (J + 1 + j) 0 := by
        by_cases e : j = 0
        · subst e; exact Int.le_refl _
        · exact hrow (J + 1) (J + 1 + j) (by omega) (by omega) (by omega) (by omega)
      rw [getD_get (show J + 1 + j < r.length by omega)] at h2
      omega
    · have hj := (List.getElem?_eq_some_iff.1 hx).1
      rw [List.length_drop] at hj
      rw [List.getElem?_drop] at hx
      refine ⟨r.getD (J + 1 + j) 0, by rw [List.getElem?_drop, getD_get (by omega)]; exact List.getElem?_eq_getElem (by omega), ?_⟩
      rcases hcol (J + 1 + j) (by omega) (by omega) (by omega) with h1 | h1
      · rw [(some_getD hx).2] at h1; exact h1
      · have := hrt (J + 1 + j) (by omega) (by omega); omega
    · have hj := (List.getElem?_eq_some_iff.1 hp).1
      rw [List.length_take] at hj
      rw [List.getElem?_take_of_lt (by omega)] at hp hq
      have := hcol j (by omega) (by omega) (by omega)
      rwa [(some_getD hp).2, (some_getD hq).2] at this
  have := key.ctx (sword b) (sword a)
  simpa using this
end Go.Proofs.Ytmlmdklheiafpaa
