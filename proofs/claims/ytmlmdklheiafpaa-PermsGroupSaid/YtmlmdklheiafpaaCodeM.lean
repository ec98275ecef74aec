/-
  Plain lists: a permutation from its code; its word of neighbours.
-/
import Derived.Test.YtmlmdklheiafpaaGroupM
namespace Go.Proofs.Ytmlmdklheiafpaa

theorem countP_lt_mono {l : List Int} {x y : Int} (h : x ≤ y) : l.countP (fun m => decide (m < x)) ≤ l.countP (fun m => decide (m < y)) :=
  List.countP_mono_left (fun m _ hm => by simp only [decide_eq_true_eq] at hm ⊢; omega)

theorem code_inj : ∀ (a b : List Int), a.Perm b → codeOf a = codeOf b → a = b
  | [], b, hp, _ => by rw [List.nil_perm.1 hp]
  | x :: l, [], hp, _ => by have := hp.length_eq; simp at this
  | x :: l, y :: m, hp, hc => by
    rw [codeOf_cons, codeOf_cons] at hc
    injection hc with h1 h2
    have h1 : l.countP (fun t => decide (t < x)) = m.countP (fun t => decide (t < y)) := by omega
    have hx : (x :: l).countP (fun t => decide (t < x)) = l.countP (fun t => decide (t < x)) := by simp
    have hy : (y :: m).countP (fun t => decide (t < y)) = m.countP (fun t => decide (t < y)) := by simp
    have hxy : x = y := by
      rcases Int.lt_trichotomy x y with h | h | h
      · have e1 : (x :: l).countP (fun t => decide (t < y)) = 1 + l.countP (fun t => decide (t < y)) := by simp [h]; omega
        have e2 := hp.countP_eq (fun t => decide (t < y))
        have e3 := countP_lt_mono (l := l) (x := x) (y := y) (by omega)
        omega
      · exact h
      · have e1 : (y :: m).countP (fun t => decide (t < x)) = 1 + m.countP (fun t => decide (t < x)) := by simp [h]; omega
        have e2 := hp.countP_eq (fun t => decide (t < x))
        have e3 := countP_lt_mono (l := m) (x := y) (y := x) (by omega)
        omega
    subst hxy
    rw [code_inj l m hp.cons_inv h2]

/-! From the code. -/

/-- A list of codes: is each below what is left? -/
def IsCode (c : List Int) : Prop := ∀ i, i < c.length → 0 ≤ c.getD i 0 ∧ c.getD i 0 ≤ (c.length : Int) - 1 - i
instance (c : List Int) : Decidable (IsCode c) := by unfold IsCode; infer_instance

theorem codeOf_isCode (p : List Int) : IsCode (codeOf p) := fun i hi => by
  rw [codeOf_length] at hi ⊢
  have := codeAt_le p i
  have e : (codeOf p).getD i 0 = codeAt p i := by rw [getD_get (by rw [codeOf_length]; exact hi)]; simp [codeOf]
  rw [e]
  omega

theorem codeOf_snoc (l r : List Int) : codeOf (l ++ r) = (List.range l.length).map (fun i => ((l.drop (i + 1)).countP (fun m => decide (m < l.getD i 0)) + r.countP (fun m => decide (m < l.getD i 0)) : Nat) |> fun n : Nat => (n : Int)) ++ codeOf r := by
  induction l with
  | nil => simp
  | cons x l ih =>
    rw [List.cons_append, codeOf_cons, ih, List.length_cons, List.range_succ_eq_map, List.map_cons, List.map_map, List.countP_append]
    simp only [List.cons_append]
    congr 1

/-- The state of FromCode's loop: what is out, what is left. -/
def FromSt (n : Nat) (c : List Int) (out lf : List Int) : Prop :=
  (out ++ lf).Perm (upTo n) ∧ lf.Pairwise (· < ·) ∧ (∀ r, r.Perm lf → (codeOf (out ++ r)).take out.length = c.take out.length)

theorem fromSt_zero (c : List Int) : FromSt c.length c [] (upTo c.length) := by
  refine ⟨List.Perm.refl _, ?_, fun r hr => by simp⟩
  unfold upTo
  rw [List.pairwise_map]
  exact List.pairwise_lt_range.imp (fun {a b} h => by omega)

theorem asc_count {lf : List Int} (h : lf.Pairwise (· < ·)) {k : Nat} (hk : k < lf.length) : (lf.take k ++ lf.drop (k + 1)).countP (fun m => decide (m < lf[k])) = k := by
  rw [List.countP_append]
  have h1 : (lf.take k).countP (fun m => decide (m < lf[k])) = (lf.take k).length := by
    rw [List.countP_eq_length]
    intro a ha
    obtain ⟨j, hj, rfl⟩ := List.getElem_of_mem ha
    rw [List.length_take] at hj
    rw [List.getElem_take]
    exact decide_eq_true (List.pairwise_iff_getElem.1 h j k (by omega) hk (by omega))
  have h2 : (lf.drop (k + 1)).countP (fun m => decide (m < lf[k])) = 0 := by
    rw [List.countP_eq_zero]
    intro a ha
    obtain ⟨j, hj, rfl⟩ := List.getElem_of_mem ha
    rw [List.length_drop] at hj
    rw [List.getElem_drop]
    have := List.pairwise_iff_getElem.1 h k (k + 1 + j) hk (by omega) (by omega)
    simp; omega
  rw [h1, h2, List.length_take]; omega

theorem take_drop_perm {lf : List Int} {k : Nat} (hk : k < lf.length) : (lf[k] :: (lf.take k ++ lf.drop (k + 1))).Perm lf := by
  conv => rhs; rw [← List.take_append_drop k lf, List.drop_eq_getElem_cons hk]
  exact List.perm_middle.symm

theorem FromSt.step {n : Nat} {c out lf : List Int} (h : FromSt n c out lf) (hn : c.length = n) (ho : out.length < n) {k : Nat} (hk : k < lf.length) (hc : c.getD out.length 0 = k) :
    FromSt n c (out ++ [lf.getD k 0]) (lf.take k ++ lf.drop (k + 1)) := by
  obtain ⟨h1, h2, h3⟩ := h
  have hp := take_drop_perm hk
  rw [getD_get hk]
  refine ⟨?_, ?_, fun r hr => ?_⟩
  · rw [List.append_assoc]
    exact (hp.append_left out).trans h1
  · have hs : (lf.take k ++ lf.drop (k + 1)).Sublist lf := by
      conv => rhs; rw [← List.take_append_drop k lf]
      exact (List.Sublist.refl _).append (List.drop_sublist_drop_left lf (by omega))
    exact h2.sublist hs
  · rw [List.append_assoc, List.length_append, List.length_singleton]
    have h4 := h3 ([lf[k]] ++ r) ((hr.cons lf[k]).trans hp)
    have hlen : out.length < (codeOf (out ++ ([lf[k]] ++ r))).length := by rw [codeOf_length]; simp
    rw [take_snoc hlen, take_snoc (show out.length < c.length by omega), h4]
    congr 2
    simp only [codeOf_snoc out, List.getElem_append]
    rw [_root_.dif_neg (by simp)]
    simp only [List.length_map, List.length_range, Nat.sub_self]
    rw [← getD_get (d := 0), ← getD_get (d := 0) (xs := c), hc]
    simp only [List.singleton_append, codeOf_cons]
    rw [List.getD_cons_zero, hr.countP_eq, asc_count h2 hk]

theorem FromSt.done {n : Nat} {c out lf : List Int} (h : FromSt n c out lf) (hn : c.length = n) (ho : out.length = n) : IsPerm out ∧ codeOf out = c := by
  obtain ⟨h1, h2, h3⟩ := h
  have hl := h1.length_eq
  rw [List.length_append, length_upTo] at hl
  obtain rfl : lf = [] := List.eq_nil_of_length_eq_zero (by omega)
  have h4 := h3 [] (List.Perm.refl _)
  rw [List.append_nil] at h1 h4
  rw [List.take_of_length_le (by rw [codeOf_length]; exact Nat.le_refl _), List.take_of_length_le (by omega)] at h4
  exact ⟨IsPerm.of_perm h1 (isPerm_upTo n), h4⟩

theorem FromSt.len {n : Nat} {c out lf : List Int} (h : FromSt n c out lf) : out.length + lf.length = n := by
  have := h.1.length_eq
  rwa [List.length_append, length_upTo] at this

end Go.Proofs.Ytmlmdklheiafpaa
