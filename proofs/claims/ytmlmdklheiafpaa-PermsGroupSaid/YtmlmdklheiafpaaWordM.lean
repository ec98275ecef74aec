/-
  Plain lists: the word of neighbours by which a permutation is put in order.
-/
import Derived.Test.YtmlmdklheiafpaaCodeM
namespace Go.Proofs.Ytmlmdklheiafpaa

/-- Numbers i and i + 1 (from 0) change places. -/
def swp (q : List Int) (i : Nat) : List Int := (q.set i (q.getD (i + 1) 0)).set (i + 1) (q.getD i 0)

theorem swp_length (q : List Int) (i : Nat) : (swp q i).length = q.length := by simp [swp]

theorem swp_mid (l r : List Int) (a b : Int) : swp (l ++ a :: b :: r) l.length = l ++ b :: a :: r := by
  unfold swp
  have h1 : (l ++ a :: b :: r).getD (l.length + 1) 0 = b := by
    rw [getD_get (by simp), List.getElem_append_right (by omega)]; simp
  have h2 : (l ++ a :: b :: r).getD l.length 0 = a := by
    rw [getD_get (by simp), List.getElem_append_right (by omega)]; simp
  rw [h1, h2, List.set_append_right _ _ (Nat.le_refl _), Nat.sub_self, List.set_append_right _ _ (by omega)]
  simp

theorem split_mid {q : List Int} {i : Nat} (h : i + 1 < q.length) : q = q.take i ++ q.getD i 0 :: q.getD (i + 1) 0 :: q.drop (i + 2) := by
  conv => lhs; rw [← List.take_append_drop i q, List.drop_eq_getElem_cons (show i < q.length by omega), List.drop_eq_getElem_cons h]
  rw [getD_get (by omega), getD_get h]

theorem swp_eq {q : List Int} {i : Nat} (h : i + 1 < q.length) : swp q i = q.take i ++ q.getD (i + 1) 0 :: q.getD i 0 :: q.drop (i + 2) := by
  have h1 := swp_mid (q.take i) (q.drop (i + 2)) (q.getD i 0) (q.getD (i + 1) 0)
  rw [← split_mid h, List.length_take, Nat.min_eq_left (by omega)] at h1
  exact h1

theorem swp_perm {q : List Int} {i : Nat} (h : i + 1 < q.length) : (swp q i).Perm q := by
  rw [swp_eq h]
  conv => rhs; rw [split_mid h]
  exact (List.Perm.swap _ _ _).append_left _

theorem swp_swp {q : List Int} {i : Nat} (h : i + 1 < q.length) : swp (swp q i) i = q := by
  have h1 := swp_mid (q.take i) (q.drop (i + 2)) (q.getD (i + 1) 0) (q.getD i 0)
  rw [List.length_take, Nat.min_eq_left (by omega), ← swp_eq h, ← split_mid h] at h1
  exact h1

theorem inv_two (a b : Int) : inv [a, b] = if b < a then 1 else 0 := by
  have : [a, b] = [a] ++ [b] := rfl
  rw [this, inv_append, inv_one, inv_one, cross_one]
  by_cases h : b < a <;> simp [h]

theorem swp_inv {q : List Int} {i : Nat} (h : i + 1 < q.length) (hd : q.getD (i + 1) 0 < q.getD i 0) : inv (swp q i) + 1 = inv q := by
  rw [swp_eq h]
  conv => rhs; rw [split_mid h]
  generalize q.getD (i + 1) 0 = b at *
  generalize q.getD i 0 = a at *
  have e1 : q.take i ++ b :: a :: q.drop (i + 2) = q.take i ++ ([b, a] ++ q.drop (i + 2)) := by simp
  have e2 : q.take i ++ a :: b :: q.drop (i + 2) = q.take i ++ ([a, b] ++ q.drop (i + 2)) := by simp
  rw [e1, e2]
  simp only [inv_append]
  have p1 : [b, a].Perm [a, b] := List.Perm.swap _ _ _
  rw [cross_perm (List.Perm.refl (q.take i)) (p1.append_right (q.drop (i + 2))), cross_perm p1 (List.Perm.refl (q.drop (i + 2))), inv_two, inv_two, if_pos hd, if_neg (by omega)]
  omega

theorem swp_getD_low {q : List Int} {i j : Nat} (hj : j < i) : (swp q i).getD j 0 = q.getD j 0 := by
  unfold swp
  simp only [List.getD_eq_getElem?_getD, List.getElem?_set]
  rw [if_neg (by omega), if_neg (by omega)]

/-- What a word makes of a list, its last letter first. -/
def unword (w : List Int) (q : List Int) : List Int := w.foldr (fun i q => swp q (i.toNat - 1)) q
theorem unword_snoc (w : List Int) (x : Int) (q : List Int) : unword (w ++ [x]) q = unword w (swp q (x.toNat - 1)) := by simp [unword]
theorem unword_length (w q : List Int) : (unword w q).length = q.length := by
  induction w with
  | nil => rfl
  | cons x w ih => rw [← ih]; exact swp_length _ _

/-- The state of Word's loop. -/
def WordSt (p q out : List Int) (i : Nat) : Prop :=
  q.Perm p ∧ unword out q = p ∧ (∀ j, j < i → q.getD j 0 < q.getD (j + 1) 0) ∧ out.length + inv q = inv p ∧ ∀ x ∈ out, 1 ≤ x ∧ x < (p.length : Int)

theorem wordSt_zero (p : List Int) : WordSt p p [] 0 := ⟨List.Perm.refl _, rfl, fun j h => by omega, by simp, fun x h => by cases h⟩
theorem WordSt.go {p q out : List Int} {i : Nat} (h : WordSt p q out i) (hlt : q.getD i 0 < q.getD (i + 1) 0) : WordSt p q out (i + 1) :=
  ⟨h.1, h.2.1, fun j hj => by
    by_cases e : j = i
    · subst e; exact hlt
    · exact h.2.2.1 j (by omega), h.2.2.2⟩
theorem WordSt.swap {p q out : List Int} {i : Nat} (h : WordSt p q out i) (hp : IsPerm p) (hi : i + 1 < p.length) (hlt : ¬ q.getD i 0 < q.getD (i + 1) 0) :
    WordSt p (swp q i) (out ++ [(i : Int) + 1]) (i - 1) ∧ inv (swp q i) + 1 = inv q := by
  obtain ⟨h1, h2, h3, h4, h5⟩ := h
  have hl := h1.length_eq
  have hq : IsPerm q := IsPerm.of_perm h1 hp
  have hd : q.getD (i + 1) 0 < q.getD i 0 := by
    have : q.getD i 0 ≠ q.getD (i + 1) 0 := fun e => by have := hq.getD_inj (by omega) (by omega) e; omega
    omega
  have hs := swp_inv (show i + 1 < q.length by omega) hd
  refine ⟨⟨(swp_perm (by omega)).trans h1, ?_, fun j hj => ?_, ?_, fun x hx => ?_⟩, hs⟩
  · rw [unword_snoc, show ((i : Int) + 1).toNat - 1 = i by omega, swp_swp (by omega), h2]
  · rw [swp_getD_low (by omega), swp_getD_low (by omega)]; exact h3 j (by omega)
  · rw [List.length_append, List.length_singleton]; omega
  · rcases List.mem_append.1 hx with hx | hx
    · exact h5 x hx
    · simp at hx; omega

theorem asc_upTo {q : List Int} (hq : IsPerm q) (h : ∀ j, j + 1 < q.length → q.getD j 0 < q.getD (j + 1) 0) : q = upTo q.length := by
  have h1 : ∀ j, j < q.length → (j : Int) + 1 ≤ q.getD j 0 := by
    intro j
    induction j with
    | zero => intro hj; have := hq.getD_range hj; omega
    | succ j ih => intro hj; have := ih (by omega); have := h j hj; omega
  have h2 : ∀ k, k < q.length → q.getD (q.length - 1 - k) 0 ≤ (q.length : Int) - k := by
    intro k
    induction k with
    | zero => intro hk; have := hq.getD_range (show q.length - 1 - 0 < q.length by omega); omega
    | succ k ih =>
      intro hk
      have e1 := ih (by omega)
      have e2 := h (q.length - 1 - (k + 1)) (by omega)
      rw [show q.length - 1 - (k + 1) + 1 = q.length - 1 - k by omega] at e2
      omega
  apply List.ext_getElem (by rw [length_upTo])
  intro i hi _
  simp only [upTo, List.getElem_map, List.getElem_range]
  have e1 := h1 i hi
  have e2 := h2 (q.length - 1 - i) (by omega)
  rw [show q.length - 1 - (q.length - 1 - i) = i by omega] at e2
  rw [getD_get hi] at e1 e2
  omega

theorem inv_upTo : ∀ n, inv (upTo n) = 0
  | 0 => rfl
  | n + 1 => by
    have : upTo (n + 1) = upTo n ++ [(n : Int) + 1] := by simp [upTo, List.range_succ]
    rw [this, inv_snoc, inv_upTo n, over_none (fun y hy => by have := mem_upTo.1 hy; omega)]

theorem WordSt.done {p q out : List Int} {i : Nat} (h : WordSt p q out i) (hp : IsPerm p) (hi : p.length ≤ i + 1) :
    out.length = inv p ∧ unword out (upTo p.length) = p ∧ ∀ x ∈ out, 1 ≤ x ∧ x < (p.length : Int) := by
  obtain ⟨h1, h2, h3, h4, h5⟩ := h
  have hl := h1.length_eq
  have hq := asc_upTo (IsPerm.of_perm h1 hp) (fun j hj => h3 j (by omega))
  rw [hl] at hq
  rw [hq] at h2 h4
  rw [inv_upTo] at h4
  exact ⟨by omega, h2, h5⟩

end Go.Proofs.Ytmlmdklheiafpaa
