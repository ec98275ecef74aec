/-
  What the bulk says of rows of points; a grid that came in.
-/
import Derived.Test.YtdmpbbgcifodeaaRows
import Derived.Test.YtdmpbbgcifodeaaPtsL
import Derived.Deep.Strs
namespace Go.Proofs.Ytdmpbbgcifodeaa
open Go.RowKit Go.ChangeShapes Go.WideShapes Go.Deep

theorem aggs_bulk {H : Type} (D0 D1 : Nat → DataW H) : ∀ l : List Nat, 3 * l.length ≤ Rows.uptoBulkAll (l.map fun i => DataW.agg [D0 i, D1 i])
  | [] => by simp
  | i :: l => by
    have ih := aggs_bulk D0 D1 l
    have one : ∀ d : DataW H, 1 ≤ Rows.uptoBulk d := fun d => by
      cases d with
      | lit l => cases l <;> simp [Rows.uptoBulk]
      | nil => simp [Rows.uptoBulk]
      | ptr d => simp [Rows.uptoBulk]
      | slice elems spare => simp [Rows.uptoBulk]
      | agg parts => simp [Rows.uptoBulk]
      | iface t d => simp [Rows.uptoBulk]
      | map entries => simp [Rows.uptoBulk]
      | held h => simp [Rows.uptoBulk]
    have h0 := one (D0 i)
    have h1 := one (D1 i)
    simp only [List.map_cons, Rows.uptoBulkAll, Rows.uptoBulk, List.length_cons]
    omega
theorem pts_bulk {H : Type} {enc : TypeId × Value → H} {w : World} {base fuel len cap : Nat} {held : Bool} {a : Option Addr} {x : DataW H × List MemPlace}
    (h : DataW.trod enc Try.prog w base (fun _ => true) held fuel 41 (Value.slice a len cap).cells.toList = some x) : 3 * len ≤ Rows.uptoBulk x.1 := by
  obtain ⟨f0, f1, he, o0, o1, t0, t1⟩ := Try.underPoint
  rcases open_slice_pairs Try.underlying41 he Try.cellsOfPoint o0 o1 (by rw [t0]; exact Try.cellsOfInt) (by rw [t1]; exact Try.cellsOfInt) h with ⟨hcs, _⟩ | ⟨a', len', cap', mm, n, V0, V1, D0, D1, P0, P1, hcs, _, hl, hm, hmm, hx, _⟩
  · simp [Value.cells] at hcs
    obtain ⟨rfl, rfl, rfl⟩ := hcs
    omega
  · simp [Value.cells] at hcs
    obtain ⟨rfl, rfl, rfl⟩ := hcs
    have := aggs_bulk D0 D1 (List.range len)
    rw [List.length_range] at this
    rw [hx]
    simp only [Rows.uptoBulk]
    omega
theorem Try.underGrid : ∃ f0 f1 f2, Try.prog.underlying 43 = some (.struct #[f0, f1, f2]) ∧ f0.offset = 0 ∧ f1.offset = 1 ∧ f2.offset = 2 ∧ f0.type = 3 ∧ f1.type = 3 ∧ f2.type = 41 := ⟨_, _, _, Try.underlying43, by kernel_rfl, by kernel_rfl, by kernel_rfl, by kernel_rfl, by kernel_rfl, by kernel_rfl⟩
theorem Try.cellsOfGrid : Try.prog.cellsOf 43 = 3 := by kernel_rfl
theorem Try.cellsOfPts : Try.prog.cellsOf 41 = 1 := by kernel_rfl
set_option maxRecDepth 100000 in
theorem grid_open {H : Type} {enc : TypeId × Value → H} {w : World} {base fuel : Nat} {held : Bool} {cs : List Value} {x : DataW H × List MemPlace}
    (h : DataW.trod enc Try.prog w base (fun _ => true) held fuel 43 cs = some x) : ∃ (W' H' : Int) (a : Option Addr) (len cap : Nat), cs = [.int .i64 W', .int .i64 H', .slice a len cap] ∧ IsPts w a len ∧ len ≤ cap ∧ 3 * len ≤ Rows.uptoBulk x.1 := by
  obtain ⟨f0, f1, f2, hu, o0, o1, o2, t0, t1, t2⟩ := Try.underGrid
  obtain ⟨y0, y1, y2, n, rfl, hl, h0, h1, h2⟩ := trod_struct3 hu h
  have hl3 : cs.length = 3 := hl.trans Try.cellsOfGrid
  clear hl
  match cs, hl3 with
  | [c0, c1, c2], _ =>
    rw [o0, t0, Try.cellsOfInt] at h0
    rw [o1, t1, Try.cellsOfInt] at h1
    rw [o2, t2, Try.cellsOfPts] at h2
    have h0' : DataW.trod enc Try.prog w base (fun _ => true) held n 3 [c0] = some y0 := h0
    have h1' : DataW.trod enc Try.prog w base (fun _ => true) held n 3 [c1] = some y1 := h1
    have h2' : DataW.trod enc Try.prog w base (fun _ => true) held n 41 [c2] = some y2 := h2
    obtain ⟨z0, e0, _, _⟩ := DataW.trod_int Try.underlying3 h0'
    obtain ⟨z1, e1, _, _⟩ := DataW.trod_int Try.underlying3 h1'
    obtain ⟨a, len, cap, e2⟩ : ∃ a len cap, c2 = .slice a len cap := by
      obtain ⟨g0, g1, he, p0, p1, q0, q1⟩ := Try.underPoint
      rcases open_slice_pairs Try.underlying41 he Try.cellsOfPoint p0 p1 (by rw [q0]; exact Try.cellsOfInt) (by rw [q1]; exact Try.cellsOfInt) h2' with ⟨hcs, _⟩ | ⟨a', len', cap', _, _, _, _, _, _, _, _, hcs, _⟩
      · exact ⟨none, 0, 0, by simpa using hcs⟩
      · exact ⟨some a', len', cap', by simpa using hcs⟩
    subst e2
    have h3 : DataW.trod enc Try.prog w base (fun _ => true) held n 41 (Value.slice a len cap).cells.toList = some y2 := h2'
    refine ⟨z0, z1, a, len, cap, ?_, pts_open h3, pts_le h3, ?_⟩
    · have e0' : c0 = .int .i64 z0 := by simpa using e0
      have e1' : c1 = .int .i64 z1 := by simpa using e1
      rw [e0', e1']
    · have := pts_bulk h3
      simp only [Rows.uptoBulk, Rows.uptoBulkAll]
      omega
end Go.Proofs.Ytdmpbbgcifodeaa
