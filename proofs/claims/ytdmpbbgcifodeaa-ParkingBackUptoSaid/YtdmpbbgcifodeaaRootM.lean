/-
  The array of roots: whose class one is in; two classes joined.
-/
import Derived.Test.YtdmpbbgcifodeaaPaiL
import Derived.Test.YtdmpbbgcifodeaaBfsN
import Derived.Test.YtdmpbbgcifodeaaParkW
namespace Go.Proofs.Ytdmpbbgcifodeaa
open Go.RowKit

/-- r tells the classes f; dp falls on the way to the root. -/
def Roots (r : List Int) (n : Nat) (f : Int → Int) (dp : Int → Nat) : Prop :=
  r.length = n ∧ ∀ v : Nat, v < n → ∃ u : Nat, r.getD v 0 = u ∧ u < n ∧ (u = v → f v = v) ∧ (u ≠ v → f u = f v ∧ dp u < dp v)
/-- Each class has its root. -/
theorem Roots.root {r : List Int} {n : Nat} {f : Int → Int} {dp : Int → Nat} (h : Roots r n f dp) : ∀ (k v : Nat), v < n → dp v ≤ k → ∃ u : Nat, f v = u ∧ u < n ∧ r.getD u 0 = u := by
  intro k
  induction k with
  | zero =>
    intro v hv hk
    obtain ⟨u, h1, h2, h3, h4⟩ := h.2 v hv
    by_cases e : u = v
    · subst e; exact ⟨u, h3 rfl, hv, h1⟩
    · have := (h4 e).2; omega
  | succ k ih =>
    intro v hv hk
    obtain ⟨u, h1, h2, h3, h4⟩ := h.2 v hv
    by_cases e : u = v
    · subst e; exact ⟨u, h3 rfl, hv, h1⟩
    · have := h4 e
      obtain ⟨x, x1, x2, x3⟩ := ih u h2 (by omega)
      exact ⟨x, by rw [← this.1]; exact x1, x2, x3⟩
theorem Roots.start (n : Nat) : Roots ((List.range n).map (fun i : Nat => (i : Int))) n id (fun _ => 0) := by
  refine ⟨by simp, fun v hv => ⟨v, by simp [hv], hv, fun _ => rfl, fun h => absurd rfl h⟩⟩
theorem Roots.join {r : List Int} {n : Nat} {f : Int → Int} {dp : Int → Nat} (h : Roots r n f dp) {x y : Nat} (hx : x < n) (hy : y < n) {a b : Nat} (ha : f x = a) (hb : f y = b) (hab : a ≠ b) :
    a < n ∧ b < n ∧ Roots (r.set a b) n (joinC f (f x) (f y)) (fun v => if f v = a then dp v + dp b + 1 else dp v) := by
  obtain ⟨a', a1, a2, a3⟩ := h.root _ x hx (Nat.le_refl _)
  obtain ⟨b', b1, b2, b3⟩ := h.root _ y hy (Nat.le_refl _)
  have e1 : a' = a := by omega
  have e2 : b' = b := by omega
  subst e1 e2
  have fa : f a' = a' := by
    obtain ⟨u, h1, h2, h3, h4⟩ := h.2 a' a2
    exact h3 (by omega)
  have fb : f b' = b' := by
    obtain ⟨u, h1, h2, h3, h4⟩ := h.2 b' b2
    exact h3 (by omega)
  refine ⟨a2, b2, by rw [List.length_set]; exact h.1, fun v hv => ?_⟩
  rw [a1, b1]
  have hg : (r.set a' (b' : Int)).getD v 0 = if a' = v then (b' : Int) else r.getD v 0 := by
    rw [List.getD_eq_getElem?_getD, List.getElem?_set]
    by_cases c : a' = v
    · rw [if_pos c, if_pos c, if_pos (by rw [h.1]; omega)]; rfl
    · rw [if_neg c, if_neg c]; rw [List.getD_eq_getElem?_getD]
  rw [hg]
  unfold joinC
  by_cases c : a' = v
  · subst c
    rw [if_pos rfl]
    refine ⟨b', rfl, b2, fun e => absurd e.symm hab, fun _ => ?_⟩
    rw [fa, fb]
    rw [if_neg (by omega), if_pos rfl]
    refine ⟨rfl, ?_⟩
    show (if f b' = (a' : Int) then dp b' + dp b' + 1 else dp b') < (if f a' = (a' : Int) then dp a' + dp b' + 1 else dp a')
    rw [fa, fb, if_neg (by omega), if_pos rfl]
    omega
  · rw [if_neg c]
    obtain ⟨u, h1, h2, h3, h4⟩ := h.2 v hv
    refine ⟨u, h1, h2, fun e => ?_, fun e => ?_⟩
    · rw [h3 e, if_neg (by omega)]
    · obtain ⟨k1, k2⟩ := h4 e
      rw [k1]
      refine ⟨rfl, ?_⟩
      show (if f u = (a' : Int) then dp u + dp b' + 1 else dp u) < (if f v = (a' : Int) then dp v + dp b' + 1 else dp v)
      rw [k1]
      split <;> omega
theorem roots_set {n k : Nat} : ((List.range n).map (fun i : Nat => if i < k then (i : Int) else 0)).set k (k : Int) = (List.range n).map (fun i : Nat => if i < k + 1 then (i : Int) else 0) := by
  apply List.ext_getElem (by simp)
  intro j h1 h2
  rw [List.getElem_set]
  simp only [List.getElem_map, List.getElem_range]
  by_cases e : k = j
  · subst e; rw [if_pos rfl, if_pos (by omega)]
  · rw [if_neg e]
    by_cases c : j < k
    · rw [if_pos c, if_pos (by omega)]
    · rw [if_neg c, if_neg (by omega)]
theorem Merges.firsts : ∀ (l : List Edge) {f : Int → Int} {i : Nat}, Merges f l → Merges f (l.take i)
  | _, _, 0, _ => trivial
  | [], _, _ + 1, _ => trivial
  | _ :: l, _, _ + 1, h => ⟨h.1, Merges.firsts l h.2⟩
theorem cls_snoc : ∀ (l : List Edge) (f : Int → Int) (x : Edge), clsOf f (l ++ [x]) = joinC (clsOf f l) (clsOf f l x.1) (clsOf f l x.2)
  | [], _, _ => rfl
  | _ :: l, _, x => cls_snoc l _ x
theorem merges_snoc : ∀ (l : List Edge) (f : Int → Int) (x : Edge), Merges f (l ++ [x]) ↔ Merges f l ∧ clsOf f l x.1 ≠ clsOf f l x.2
  | [], f, x => by simp [Merges, clsOf]
  | y :: l, f, x => by
    simp only [List.cons_append, Merges, clsOf]
    rw [merges_snoc l]
    exact and_assoc.symm
/-- What tree tells. -/
def TreeB (l : List Edge) (low n : Nat) : Prop := l.length + low = n ∧ (∀ x ∈ l, ((low : Int) ≤ x.1 ∧ x.1 ≤ n) ∧ ((low : Int) ≤ x.2 ∧ x.2 ≤ n)) ∧ Merges id l
end Go.Proofs.Ytdmpbbgcifodeaa
