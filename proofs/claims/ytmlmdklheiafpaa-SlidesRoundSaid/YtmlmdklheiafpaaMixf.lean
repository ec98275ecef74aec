/-
  Plain: rows whose cells are changed one by one, each alike.
-/
import Derived.Test.YtmlmdklheiafpaaEvaD
namespace Go.Proofs.Ytmlmdklheiafpaa

/-- The rows before a, and of row a the cells before k, are done. -/
structure Mixf (f : Int → Int) (P S : List (List Int)) (a k : Nat) : Prop where
  len : S.length = P.length
  rls : ∀ r, rl S r = rl P r
  val : ∀ r b, b < rl P r → cell S r b = if r < a ∨ (r = a ∧ b < k) then f (cell P r b) else cell P r b
theorem Mixf.start (f : Int → Int) (P : List (List Int)) : Mixf f P P 0 0 := ⟨rfl, fun _ => rfl, fun r b _ => by rw [if_neg (by omega)]⟩
theorem Mixf.cur {f : Int → Int} {P S : List (List Int)} {a k : Nat} (h : Mixf f P S a k) (hk : k < rl P a) : cell S a k = cell P a k := by
  rw [h.val a k hk, if_neg (by omega)]
theorem Mixf.step {f : Int → Int} {P S : List (List Int)} {a k : Nat} (h : Mixf f P S a k) (hk : k < rl P a) : Mixf f P (put S a k (f (cell P a k))) a (k + 1) := by
  refine ⟨by rw [put_length]; exact h.len, fun r => by rw [put_rl]; exact h.rls r, fun r b hb => ?_⟩
  rw [put_cell (by rw [h.rls]; exact hk)]
  by_cases e : r = a ∧ b = k
  · rw [if_pos e, if_pos (by omega), e.1, e.2]
  · rw [if_neg e, h.val r b hb]
    by_cases e2 : r < a ∨ (r = a ∧ b < k)
    · rw [if_pos e2, if_pos (by omega)]
    · rw [if_neg e2, if_neg (by omega)]
theorem Mixf.next {f : Int → Int} {P S : List (List Int)} {a k : Nat} (h : Mixf f P S a k) (hk : rl P a ≤ k) : Mixf f P S (a + 1) 0 := by
  refine ⟨h.len, h.rls, fun r b hb => ?_⟩
  rw [h.val r b hb]
  by_cases e : r < a ∨ (r = a ∧ b < k)
  · rw [if_pos e, if_pos (by omega)]
  · rw [if_neg e, if_neg (by
      intro e2
      have : r = a := by omega
      subst this
      omega)]
theorem Mixf.done {f : Int → Int} {P S : List (List Int)} {a : Nat} (h : Mixf f P S a 0) (ha : P.length ≤ a) : S = P.map (List.map f) := by
  apply List.ext_getElem (by rw [List.length_map]; exact h.len)
  intro r h1 h2
  rw [List.length_map] at h2
  rw [List.getElem_map]
  have h3 := h.rls r
  unfold rl at h3
  rw [getD_get h1, getD_get h2] at h3
  apply List.ext_getElem (by rw [List.length_map]; exact h3)
  intro b g1 g2
  have h4 := h.val r b (by unfold rl; rw [getD_get h2]; omega)
  rw [if_pos (by omega)] at h4
  unfold cell at h4
  rw [getD_get h1, getD_get h2, getD_get g1, getD_get (by omega)] at h4
  rw [h4, List.getElem_map]
theorem pro_nil (h : Std []) : Pro [] [] := ⟨h, h, fun _ => rfl, rfl, .refl _⟩
theorem Gone.bnd {T out : List (List Int)} {i j : Nat} (h : Gone T out i j) (a b : Nat) (hb : b < rl (pad out i) a) : 0 ≤ cell (pad out i) a b ∧ cell (pad out i) a b ≤ 99 := by
  unfold rl at hb
  rw [pad_getD] at hb
  unfold cell
  rw [pad_getD]
  have h1 := h.ok.skOk.2 a b hb
  have h2 := h.ok.skOk.1.sk.2 a b hb
  unfold cell at h1 h2
  omega
theorem Gone.lens {T out : List (List Int)} {i j : Nat} (h : Gone T out i j) (a : Nat) : rl (pad out i) a ≤ rl T a ∧ rl (pad out i) i = j := by
  have h1 := h.rls a
  have h2 := h.rls i
  have h3 := h.here
  rw [if_pos rfl] at h2
  unfold rl at *
  rw [pad_getD, pad_getD]
  by_cases e : a = i
  · rw [if_pos e] at h1; rw [e] at h1 ⊢; omega
  · rw [if_neg e] at h1; omega
end Go.Proofs.Ytmlmdklheiafpaa
