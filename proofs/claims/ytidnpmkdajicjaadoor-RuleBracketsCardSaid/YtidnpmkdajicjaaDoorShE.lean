/-
  ferlaw.Same, literals, owned rows (printed by wip/mkA.py).
-/
import Derived.Test.YtidnpmkdajicjaaDoorCloneW
import Derived.OwnWalk
namespace Go.Proofs.YtidnpmkdajicjaaDoor
open Go.RowKit

theorem sl_litA (w : World) (cs : List Value) (B : Nat) (hB : w.heap.size < B) : Sl (w.alloc (.cells cs.toArray 3)) B (some ⟨w.heap.size, 0, none⟩) cs := fun _ =>
  ⟨_, _, rfl, hB, fun k u hk => by rw [World.cell?_alloc_at _ _ _ _ rfl]; simpa using hk⟩
theorem own_lowA {w w' : World} {base g n c B : Nat} {e : TypeId} {cs : List Value} (h : w.ownsRow base e 1 (.slice (some ⟨g, 0, none⟩) n c) n cs) (hg : g < B) (hb : Below B w w') : w'.ownsRow base e 1 (.slice (some ⟨g, 0, none⟩) n c) n cs := by
  refine ⟨h.1, ?_⟩
  rcases h.2 with hn | ⟨g', cap, cur, e1, hg', hh, rest⟩
  · exact .inl hn
  · obtain rfl : g = g' := by
      have : g = g' ∧ c = cap := by simpa using e1
      exact this.1
    exact .inr ⟨g, cap, cur, e1, hg', (hb.block g hg).trans hh, rest⟩
/-- A row that another row's turning leaves. -/
theorem own_apartA {w w' : World} {base n : Nat} {e : TypeId} {v : Value} {cs : List Value} (h : w.ownsRow base e 1 v n cs) (hk : ∀ k, base ≤ k → w'.heap[k]? = w.heap[k]?) : w'.ownsRow base e 1 v n cs := by
  refine ⟨h.1, ?_⟩
  rcases h.2 with hn | ⟨g, cap, cur, e1, hg, hh, rest⟩
  · exact .inl hn
  · exact .inr ⟨g, cap, cur, e1, hg, (hk g hg).trans hh, rest⟩
/-- A value that owns a row, as a slice that reads. -/
theorem own_sliceA {w : World} {base n : Nat} {v : Value} {xs : List Int} (h : w.ownsRow base 3 1 v n (ints xs)) : ∃ A c, v = .slice A xs.length c ∧ n = xs.length ∧ Sl w w.heap.size A (ints xs) ∧ xs.length ≤ c ∧ c ≤ 9223372036854775807 := by
  have hl : xs.length = n := by have := h.1; rw [ints_length] at this; omega
  subst hl
  rcases h.2 with ⟨e1, e2⟩ | ⟨g, c, _, e1, _⟩
  · refine ⟨none, 0, by rw [e2]; exact e1, rfl, ?_, by omega, by omega⟩
    rw [List.eq_nil_of_length_eq_zero e2]; exact Sl.nil _ _ _
  · rw [e1] at h
    exact ⟨_, c, e1, rfl, Sl.of_own h, (own_cap h).1, (own_cap h).2⟩
end Go.Proofs.YtidnpmkdajicjaaDoor
