/-
  Plain: what fill.Content counts (a part of the elder text).
-/
import Derived.Test.YtmlmdklheiafpaaDoorRoundsP
import Derived.Test.YtmlmdklheiafpaaDoorBruhatM
import Derived.Test.YtmlmdklheiafpaaDoorPlacF
namespace Go.Proofs.YtmlmdklheiafpaaDoor

theorem flatten_len (T : List (List Int)) : T.flatten.length = boxes T := by
  unfold boxes; rw [List.length_flatten]
/-- How often each letter stands in xs. -/
structure Cnt (xs l : List Int) : Prop where
  at_ : ∀ k, k < l.length → l.getD k 0 = (xs.count ((k : Int) + 1) : Int)
  up : ∀ x ∈ xs, x ≤ (l.length : Int)
theorem Cnt.nil : Cnt [] [] := ⟨fun k hk => by simp at hk, fun x hx => by simp at hx⟩
theorem Cnt.zero {xs l : List Int} (h : Cnt xs l) : Cnt xs (l ++ [0]) := by
  refine ⟨fun k hk => ?_, fun x hx => by have := h.up x hx; simp; omega⟩
  by_cases e : k < l.length
  · rw [List.getD_eq_getElem?_getD, List.getElem?_append_left e, ← List.getD_eq_getElem?_getD]; exact h.at_ k e
  · have hk2 : k = l.length := by simp at hk; omega
    subst hk2
    rw [List.getD_eq_getElem?_getD, List.getElem?_append_right (Nat.le_refl _)]
    have : xs.count ((l.length : Int) + 1) = 0 := List.count_eq_zero.2 (fun hm => by have := h.up _ hm; omega)
    rw [this]; simp
theorem Cnt.add {xs l : List Int} {n : Nat} (h : Cnt xs l) (h2 : n < l.length) : Cnt (xs ++ [(n : Int) + 1]) (l.set n (l.getD n 0 + 1)) := by
  refine ⟨fun k hk => ?_, fun x hx => ?_⟩
  · rw [List.length_set] at hk
    rw [List.count_append]
    by_cases e : n = k
    · subst e
      rw [List.getD_eq_getElem?_getD, List.getElem?_set_self hk, h.at_ n hk]; simp
    · rw [List.getD_eq_getElem?_getD, List.getElem?_set_ne e, ← List.getD_eq_getElem?_getD, h.at_ k hk]
      have : List.count ((k : Int) + 1) [(n : Int) + 1] = 0 := List.count_eq_zero.2 (fun hm => by simp at hm; omega)
      rw [this]; simp
  · rw [List.length_set]
    rcases List.mem_append.1 hx with e | e
    · exact h.up x e
    · simp at e; rw [e]; omega
theorem Cnt.perm {xs l : List Int} (h : Cnt xs l) (h1 : ∀ x ∈ xs, 1 ≤ x) (ht : l.length = 0 ∨ (l.length : Int) ∈ xs) : IsPerm xs ↔ ∀ k, k < l.length → l.getD k 0 = 1 := by
  refine ⟨fun hp k hk => ?_, fun hall => ?_⟩
  · rw [h.at_ k hk]
    have h2 : (l.length : Int) ≤ xs.length := by
      rcases ht with e | e
      · omega
      · exact (hp.2 _ e).2
    have h3 := hp.mem (x := (k : Int) + 1) (by omega) (by omega)
    have h4 := List.nodup_iff_count.1 hp.1 ((k : Int) + 1)
    have h5 := List.count_pos_iff.2 h3
    omega
  · have hc : ∀ x : Int, 1 ≤ x → x ≤ (l.length : Int) → xs.count x = 1 := fun x hx1 hx2 => by
      have h2 := hall (x - 1).toNat (by omega)
      rw [h.at_ _ (by omega), show (((x - 1).toNat : Nat) : Int) + 1 = x by omega] at h2
      omega
    have hnd : xs.Nodup := List.nodup_iff_count.2 (fun x => by
      by_cases hx : x ∈ xs
      · rw [hc x (h1 x hx) (h.up x hx)]; exact Nat.le_refl _
      · rw [List.count_eq_zero.2 hx]; exact Nat.zero_le _)
    have hl := IsPerm.length_of (n := l.length) hnd (fun x hx => ⟨h1 x hx, h.up x hx⟩) (fun x hx1 hx2 => List.count_pos_iff.1 (by rw [hc x hx1 hx2]; omega))
    exact ⟨hnd, fun x hx => ⟨h1 x hx, by rw [hl]; exact h.up x hx⟩⟩
end Go.Proofs.YtmlmdklheiafpaaDoor
