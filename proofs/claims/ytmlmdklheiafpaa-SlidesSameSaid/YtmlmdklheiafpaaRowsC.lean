/-
  What a row tells of a slice of slices of ints that came in: besides, that no length is above its capacity.
-/
import Derived.Test.YtmlmdklheiafpaaRowsL
import Derived.Test.YtmlmdklheiafpaaSCap
namespace Go.Proofs.Ytmlmdklheiafpaa
open Go.RowKit Go.ChangeShapes Go.WideShapes Go.Deep

def IsRowsC (w : World) (a : Option Addr) (len : Nat) : Prop :=
  ∃ rows : List (List Int), rows.length = len ∧ rows.length ≤ 9223372036854775807 ∧ SR w w.heap.size a rows ∧ SCap w a len ∧ ∀ r ∈ rows, In64 r
theorem rowsC_open {H : Type} {enc : TypeId × Value → H} {w : World} {base fuel len cap : Nat} {held : Bool} {a : Option Addr} {x : DataW H × List MemPlace}
    (h : DataW.trod enc Try.prog w base (fun _ => true) held fuel 40 (Value.slice a len cap).cells.toList = some x) : IsRowsC w a len := by
  obtain ⟨rows, h1, h2, h3, h4⟩ := rows_open h
  refine ⟨rows, h1, h2, h3, ?_, h4⟩
  rcases open_int_rows Try.underlying40 Try.underlying22 Try.underlying3 Try.cellsOfSlice Try.cellsOfInt h with ⟨hcs, _⟩ | ⟨a', len', cap', A, L, C, Z, hcs, _, hl, hm, _, hx⟩
  · simp [Value.cells] at hcs
    obtain ⟨rfl, rfl, rfl⟩ := hcs
    intro b o e
    cases e
  · simp [Value.cells] at hcs
    obtain ⟨rfl, rfl, rfl⟩ := hcs
    intro b o e r hr A' m c hc
    cases e
    have hq := hx r (by omega)
    have h5 := hq.1
    rw [Go.WideShapes.add_plain] at h5
    rw [h5] at hc
    cases hc
    exact hq.2.1
end Go.Proofs.Ytmlmdklheiafpaa
