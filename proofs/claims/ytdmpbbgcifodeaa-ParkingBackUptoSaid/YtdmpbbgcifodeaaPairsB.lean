/-
  What the bulk says of a row of ints and of a row of pairs that came in.
-/
import Derived.Test.YtdmpbbgcifodeaaRows
import Derived.Test.YtdmpbbgcifodeaaPairsL
import Derived.Test.YtdmpbbgcifodeaaRow
import Derived.ChangeSlices
namespace Go.Proofs.Ytdmpbbgcifodeaa
open Go.RowKit Go.ChangeShapes Go.WideShapes Go.Deep

theorem bulk_one {H : Type} (d : DataW H) : 1 ≤ Rows.uptoBulk d := by
  cases d with
  | lit l => cases l <;> simp [Rows.uptoBulk]
  | nil => simp [Rows.uptoBulk]
  | ptr d => simp [Rows.uptoBulk]
  | slice elems spare => simp [Rows.uptoBulk]
  | agg parts => simp [Rows.uptoBulk]
  | iface t d => simp [Rows.uptoBulk]
  | map entries => simp [Rows.uptoBulk]
  | held h => simp [Rows.uptoBulk]
theorem bulk_len {H : Type} : ∀ l : List (DataW H), l.length ≤ Rows.uptoBulkAll l
  | [] => Nat.zero_le _
  | x :: r => by
    have h1 := bulk_one x
    have h2 := bulk_len r
    simp only [Rows.uptoBulkAll, List.length_cons]; omega
theorem row_bulk {H : Type} {enc : TypeId × Value → H} {w : World} {base fuel len cap : Nat} {a : Option Addr} {x : DataW H × List MemPlace}
    (h : DataW.trod enc Try.prog w base (fun _ => true) true fuel 22 (Value.slice a len cap).cells.toList = some x) : (∃ zs, IsRow .i64 w a len cap zs) ∧ len ≤ Rows.uptoBulk x.1 := by
  rcases open_ints Try.underlying22 Try.underlying3 (by kernel_rfl) h with ⟨hcs, _⟩ | ⟨y, l, c, zs, hcs, _, hl, hm, hz, hx, hcell, hwz⟩
  · simp [Value.cells] at hcs
    obtain ⟨rfl, rfl, rfl⟩ := hcs
    exact ⟨⟨[], .inl ⟨rfl, rfl, rfl, rfl⟩⟩, Nat.zero_le _⟩
  · simp [Value.cells] at hcs
    obtain ⟨rfl, rfl, rfl⟩ := hcs
    have hz' : zs.length = cap := by simpa using hz
    refine ⟨⟨zs, .inr ⟨_, rfl, hl, hm, hz', hcell, hwz⟩⟩, ?_⟩
    rw [hx]
    have := bulk_len (H := H) (lits .i64 (zs.take len))
    have hll : (lits (H := H) .i64 (zs.take len)).length = len := by simp [lits]; omega
    simp only [Rows.uptoBulk]
    omega
theorem pairs_bulk {H : Type} {enc : TypeId × Value → H} {w : World} {base fuel len cap : Nat} {held : Bool} {a : Option Addr} {x : DataW H × List MemPlace}
    (h : DataW.trod enc Try.prog w base (fun _ => true) held fuel 76 (Value.slice a len cap).cells.toList = some x) : len ≤ Rows.uptoBulk x.1 := by
  obtain ⟨f0, f1, he, o0, o1, t0, t1⟩ := Try.underPair
  rcases open_slice_pairs Try.underlying76 he Try.cellsOfPair o0 o1 (by rw [t0]; exact Try.cellsOfInt) (by rw [t1]; exact Try.cellsOfInt) h with ⟨hcs, _⟩ | ⟨a', len', cap', mm, n, V0, V1, D0, D1, P0, P1, hcs, _, hl, hm, hmm, hx, _⟩
  · simp [Value.cells] at hcs
    obtain ⟨rfl, rfl, rfl⟩ := hcs
    omega
  · simp [Value.cells] at hcs
    obtain ⟨rfl, rfl, rfl⟩ := hcs
    have := bulk_len (H := H) ((List.range len).map fun i => DataW.agg [D0 i, D1 i])
    rw [List.length_map, List.length_range] at this
    rw [hx]
    simp only [Rows.uptoBulk]
    omega
end Go.Proofs.Ytdmpbbgcifodeaa
