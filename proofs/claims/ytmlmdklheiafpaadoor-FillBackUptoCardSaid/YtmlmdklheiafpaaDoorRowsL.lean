/-
  What a row tells of a slice of slices of ints that came in, in this seat's own words.
-/
import Derived.Test.YtmlmdklheiafpaaDoorMatA
import Derived.Test.YtmlmdklheiafpaaDoorRow
import Derived.Deep.Matrix
namespace Go.Proofs.YtmlmdklheiafpaaDoor
open Go.RowKit Go.ChangeShapes Go.WideShapes Go.Deep

/-- WHAT THE WALK IS TOLD OF A SLICE OF SLICES OF INTEGERS THAT CAME IN: it reads as rows of int64. -/
def IsRows (w : World) (a : Option Addr) (len : Nat) : Prop :=
  ∃ rows : List (List Int), rows.length = len ∧ rows.length ≤ 9223372036854775807 ∧ SR w w.heap.size a rows ∧ ∀ r ∈ rows, In64 r

theorem cells_at {w : World} {a : Addr} {n : Nat} {V : Nat → Value} (h : ∀ i, i < n → w.cell? (a.add i) = some (V i)) (hp : 0 < n) :
    ∃ b off, a = ⟨b, off, none⟩ ∧ ∀ j, j < n → w.cell? ⟨b, off + j, none⟩ = some (V j) := by
  obtain ⟨b, off, spot⟩ := a
  have hspot : spot = none := by simpa [Addr.add] using World.cell?_spot (h 0 hp)
  subst hspot
  exact ⟨b, off, rfl, fun j hj => by rw [← Go.WideShapes.add_plain]; exact h j hj⟩

theorem Tryd.cellsOfSlice : Tryd.prog.cellsOf 34 = 1 := by kernel_rfl
theorem Tryd.cellsOfInt : Tryd.prog.cellsOf 3 = 1 := by kernel_rfl

theorem rows_open {H : Type} {enc : TypeId × Value → H} {w : World} {base fuel len cap : Nat} {held : Bool} {a : Option Addr} {x : DataW H × List MemPlace}
    (h : DataW.trod enc Tryd.prog w base (fun _ => true) held fuel 22 (Value.slice a len cap).cells.toList = some x) : IsRows w a len := by
  rcases open_int_rows Tryd.underlying22 Tryd.underlying34 Tryd.underlying3 Tryd.cellsOfSlice Tryd.cellsOfInt h with ⟨hcs, _⟩ | ⟨a', len', cap', A, L, C, Z, hcs, _, hl, hm, _, hx⟩
  · simp [Value.cells] at hcs
    obtain ⟨rfl, rfl, rfl⟩ := hcs
    exact ⟨[], rfl, by simp, SR.nil _ _ _, fun r hr => by cases hr⟩
  · simp [Value.cells] at hcs
    obtain ⟨rfl, rfl, rfl⟩ := hcs
    have hm' : cap ≤ 9223372036854775807 := by simpa [maxLen] using hm
    have hrow : ∀ r, r < cap → ((Z r).take (L r)).length = L r := fun r hr => by
      obtain ⟨_, h1, _, h2, _⟩ := hx r hr
      rw [List.length_take, h2]; omega
    have hget : ∀ r, r < len → ((List.range len).map (fun r => (Z r).take (L r))).getD r [] = (Z r).take (L r) := fun r hr => by simp [hr]
    refine ⟨(List.range len).map (fun r => (Z r).take (L r)), by simp, by simp; omega, ⟨(List.range len).map (fun r => .slice (A r) (L r) (C r)), by simp, fun hp => ?_, fun r hr => ?_⟩, fun r hr => ?_⟩
    · have hp' : 0 < cap := by simp at hp; omega
      obtain ⟨b, off, rfl, hc⟩ := cells_at (n := cap) (fun i hi => (hx i hi).1) hp'
      refine ⟨b, off, rfl, World.block_lt_of_cell? w _ (hc 0 hp'), fun k u hk => ?_⟩
      obtain ⟨hkl, e⟩ := List.getElem?_eq_some_iff.1 hk
      simp only [List.getElem_map, List.getElem_range] at e
      have hkl' : k < len := by simpa using hkl
      rw [hc k (by omega), e]
    · have hr' : r < len := by simpa using hr
      have hrc : r < cap := by omega
      obtain ⟨_, h1, h2, h3, h4, h5, h6⟩ := hx r hrc
      rw [hget r hr', hrow r hrc]
      refine ⟨A r, C r, by simp [hr'], fun hp => ?_, by have : maxLen = 9223372036854775807 := rfl; omega⟩
      have hLp : 0 < L r := by rw [ints_length, hrow r hrc] at hp; exact hp
      cases hA : A r with
      | none => have := h5 hA; omega
      | some a2 =>
        obtain ⟨_, hcell⟩ := h6 a2 hA
        obtain ⟨b, off, rfl, hc⟩ := Go.ints_at (zs := Z r) (fun i hi => hcell i (by rw [← h3]; exact hi)) (by rw [h3]; omega)
        refine ⟨b, off, rfl, World.block_lt_of_cell? w _ (hc 0 (by rw [h3]; omega)), fun k u hk => ?_⟩
        have hkl : k < ((Z r).take (L r)).length := by
          have := (List.getElem?_eq_some_iff.1 hk).1
          simpa [ints] using this
        rw [ints_get hkl] at hk
        have hkz : k < (Z r).length := by rw [List.length_take] at hkl; omega
        rw [hc k hkz, ← hk]
        simp [hkz]
    · obtain ⟨j, hj, rfl⟩ := List.mem_map.1 hr
      obtain ⟨_, _, _, _, h4, _⟩ := hx j (by have := List.mem_range.1 hj; omega)
      exact fun y hy => Go.bounds_i64 (h4 y (List.mem_of_mem_take hy))

end Go.Proofs.YtmlmdklheiafpaaDoor
