/-
  What a row tells of a slice that came in, in this seat's own words.
-/
import Derived.Test.YtidnpmkdajicjaaDoorLib
import Derived.OpenShut
namespace Go.Proofs.YtidnpmkdajicjaaDoor
open Go.RowKit

/-- WHAT THE WALK IS TOLD OF A SLICE OF INTEGERS THAT CAME IN: it is nil; or it leads to a row of 'cap' cells, the numbers 'zs' (the first 'len' are its elements, the rest its spare room), each fitting its kind. -/
def IsRow (k : IntKind) (w : World) (a : Option Addr) (len cap : Nat) (zs : List Int) : Prop :=
  (a = none ∧ len = 0 ∧ cap = 0 ∧ zs = []) ∨
  ∃ x, a = some x ∧ len ≤ cap ∧ cap ≤ maxLen ∧ zs.length = cap ∧ (∀ i, i < zs.length → w.cell? (x.add i) = some (.int k (zs.getD i 0))) ∧ ∀ n ∈ zs, (Lit.int k n).wf = true

/-- Each number is one of an int64. -/
def In64 (xs : List Int) : Prop := ∀ x ∈ xs, -9223372036854775808 ≤ x ∧ x ≤ 9223372036854775807

theorem IsRow.sl {w : World} {a : Option Addr} {len cap : Nat} {zs : List Int} (h : IsRow .i64 w a len cap zs) :
    ∃ xs : List Int, xs.length = len ∧ len ≤ cap ∧ xs.length ≤ 9223372036854775807 ∧ Sl w w.heap.size a (ints xs) ∧ In64 xs := by
  rcases h with ⟨rfl, rfl, rfl, rfl⟩ | ⟨x, rfl, hl, hm, hz, hc, hw⟩
  · exact ⟨[], rfl, Nat.le_refl _, by simp, Sl.nil _ _ _, by simp [In64]⟩
  · have hm' : cap ≤ 9223372036854775807 := by simpa [maxLen] using hm
    refine ⟨zs.take len, by simp; omega, hl, by simp; omega, ?_, fun y hy => Go.bounds_i64 (hw y (List.mem_of_mem_take hy))⟩
    intro hpos
    have hp : 0 < zs.length := by simp [ints] at hpos; omega
    obtain ⟨b, o, rfl, hcell⟩ := Go.ints_at hc hp
    refine ⟨b, o, rfl, World.block_lt_of_cell? w _ (hcell 0 hp), fun k u hk => ?_⟩
    have hkl : k < (zs.take len).length := by
      have := (List.getElem?_eq_some_iff.1 hk).1
      simpa [ints] using this
    rw [ints_get hkl] at hk
    have hkz : k < zs.length := by simp at hkl; omega
    rw [hcell k hkz, ← hk]
    simp [hkz]

end Go.Proofs.YtidnpmkdajicjaaDoor
