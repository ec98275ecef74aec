/-
  What a row tells of a slice of pairs of ints that came in, in this seat's own words.
-/
import Derived.Test.YtdmpbbgcifodeaaPaiL
import Derived.Test.YtdmpbbgcifodeaaRowsL
import Derived.Deep.SlicePairs
namespace Go.Proofs.Ytdmpbbgcifodeaa
open Go.RowKit Go.ChangeShapes Go.WideShapes Go.Deep

/-- Each pair is of int64s. -/
def In64P (m : List (Int × Int)) : Prop := ∀ x ∈ m, (-9223372036854775808 ≤ x.1 ∧ x.1 ≤ 9223372036854775807) ∧ (-9223372036854775808 ≤ x.2 ∧ x.2 ≤ 9223372036854775807)
/-- WHAT THE WALK IS TOLD OF A SLICE OF PAIRS THAT CAME IN: it reads as pairs of int64. -/
def IsPairs (w : World) (a : Option Addr) (len : Nat) : Prop :=
  ∃ m : List (Int × Int), m.length = len ∧ m.length ≤ 9223372036854775807 ∧ Sl w w.heap.size a (pcells m) ∧ In64P m

theorem Try.underPair : ∃ f0 f1, Try.prog.underlying 81 = some (.struct #[f0, f1]) ∧ f0.offset = 0 ∧ f1.offset = 1 ∧ f0.type = 3 ∧ f1.type = 3 := ⟨_, _, Try.underlying81, by kernel_rfl, by kernel_rfl, by kernel_rfl, by kernel_rfl⟩
theorem Try.cellsOfPair : Try.prog.cellsOf 81 = 2 := by kernel_rfl
theorem pcells_even {m : List (Int × Int)} {k : Nat} {u : Value} (h : (pcells m)[k]? = some u) : k / 2 < m.length ∧ ((k % 2 = 0 ∧ u = .int .i64 (m.getD (k / 2) (0, 0)).1) ∨ (k % 2 = 1 ∧ u = .int .i64 (m.getD (k / 2) (0, 0)).2)) := by
  have hk := (List.getElem?_eq_some_iff.1 h).1
  rw [pcells_len] at hk
  have hd : k / 2 < m.length := by omega
  obtain ⟨h1, h2⟩ := pcells_get hd
  refine ⟨hd, ?_⟩
  rcases Nat.mod_two_eq_zero_or_one k with e | e
  · have et : k / 2 * 2 = k := by omega
    rw [et, h] at h1
    exact .inl ⟨e, by injection h1⟩
  · have et : k / 2 * 2 + 1 = k := by omega
    rw [et, h] at h2
    exact .inr ⟨e, by injection h2⟩

theorem pairs_open {H : Type} {enc : TypeId × Value → H} {w : World} {base fuel len cap : Nat} {held : Bool} {a : Option Addr} {x : DataW H × List MemPlace}
    (h : DataW.trod enc Try.prog w base (fun _ => true) held fuel 76 (Value.slice a len cap).cells.toList = some x) : IsPairs w a len := by
  obtain ⟨f0, f1, he, o0, o1, t0, t1⟩ := Try.underPair
  rcases open_slice_pairs Try.underlying76 he Try.cellsOfPair o0 o1 (by rw [t0]; exact Try.cellsOfInt) (by rw [t1]; exact Try.cellsOfInt) h with ⟨hcs, _⟩ | ⟨a', len', cap', mm, n, V0, V1, D0, D1, P0, P1, hcs, _, hl, hm, hmm, _, hx⟩
  · simp [Value.cells] at hcs
    obtain ⟨rfl, rfl, rfl⟩ := hcs
    exact ⟨[], rfl, by simp, Sl.nil _ _ _, fun r hr => by cases hr⟩
  · simp [Value.cells] at hcs
    obtain ⟨rfl, rfl, rfl⟩ := hcs
    simp only [if_true] at hmm
    have hmm2 := hmm.symm
    subst hmm2
    have hm' : cap ≤ 9223372036854775807 := by simpa [maxLen] using hm
    have hint : ∀ i, i < cap → ∃ y z : Int, V0 i = .int .i64 y ∧ V1 i = .int .i64 z ∧ (Lit.int .i64 y).wf = true ∧ (Lit.int .i64 z).wf = true := fun i hi => by
      obtain ⟨_, _, g0, g1⟩ := hx i hi
      rw [t0] at g0
      rw [t1] at g1
      obtain ⟨y, hy, _, hy2⟩ := DataW.trod_int Try.underlying3 g0
      obtain ⟨z, hz, _, hz2⟩ := DataW.trod_int Try.underlying3 g1
      exact ⟨y, z, by simpa using hy, by simpa using hz, hy2, hz2⟩
    obtain ⟨q, hq⟩ : ∃ q : Nat → Int × Int, ∀ i, i < cap → V0 i = .int .i64 (q i).1 ∧ V1 i = .int .i64 (q i).2 ∧ (Lit.int .i64 (q i).1).wf = true ∧ (Lit.int .i64 (q i).2).wf = true := by
      obtain ⟨q, hq⟩ := choose_lt (p := fun i (p : Int × Int) => V0 i = .int .i64 p.1 ∧ V1 i = .int .i64 p.2 ∧ (Lit.int .i64 p.1).wf = true ∧ (Lit.int .i64 p.2).wf = true) (n := cap) (fun i hi => by
        obtain ⟨y, z, h1, h2, h3, h4⟩ := hint i hi
        exact ⟨(y, z), h1, h2, h3, h4⟩)
      exact ⟨q, hq⟩
    have hget : ∀ r, r < len → ((List.range len).map q).getD r (0, 0) = q r := fun r hr => by simp [hr]
    refine ⟨(List.range len).map q, by simp, by simp; omega, fun hp => ?_, fun y hy => ?_⟩
    · have hp' : 0 < len := by rw [pcells_len] at hp; simp at hp; omega
      obtain ⟨b, off, spot⟩ := a'
      have hc0 := (hx 0 (by omega)).1
      have hspot : spot = none := by simpa [Addr.add] using World.cell?_spot hc0
      subst hspot
      have hc : ∀ i, i < cap → w.cell? ⟨b, off + i * 2, none⟩ = some (.int .i64 (q i).1) ∧ w.cell? ⟨b, off + i * 2 + 1, none⟩ = some (.int .i64 (q i).2) := fun i hi => by
        obtain ⟨g0, g1, _, _⟩ := hx i hi
        obtain ⟨e0, e1, _, _⟩ := hq i hi
        rw [Go.WideShapes.add_plain, e0] at g0
        rw [Go.WideShapes.add_plain, e1] at g1
        exact ⟨g0, by rw [← Nat.add_assoc] at g1; exact g1⟩
      refine ⟨b, off, rfl, World.block_lt_of_cell? w _ (hc 0 (by omega)).1, fun k u hk => ?_⟩
      obtain ⟨hd, he2⟩ := pcells_even hk
      have hd' : k / 2 < len := by simpa using hd
      obtain ⟨g0, g1⟩ := hc (k / 2) (by omega)
      rw [hget _ hd'] at he2
      rcases he2 with ⟨e, rfl⟩ | ⟨e, rfl⟩
      · have et : off + k / 2 * 2 = off + k := by omega
        rwa [et] at g0
      · have et : off + k / 2 * 2 + 1 = off + k := by omega
        rwa [et] at g1
    · obtain ⟨j, hj, rfl⟩ := List.mem_map.1 hy
      obtain ⟨_, _, h3, h4⟩ := hq j (by have := List.mem_range.1 hj; omega)
      exact ⟨Go.bounds_i64 h3, Go.bounds_i64 h4⟩
end Go.Proofs.Ytdmpbbgcifodeaa
