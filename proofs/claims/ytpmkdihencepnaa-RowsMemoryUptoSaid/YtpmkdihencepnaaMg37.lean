/-
  What a row tells of a slice that came in, in this seat's own words.
-/
import Derived.OpenShut
import Derived.Deep.Matrix
import Derived.Test.YtpmkdihencepnaaRows
import Derived.Test.YtpmkdihencepnaaMg01
namespace Go.Proofs.Ytpmkdihencepnaa
open Go.RowKit

/-- WHAT THE WALK IS TOLD OF A SLICE OF INTEGERS THAT CAME IN: it is nil; or it leads to a row of 'cap' cells, the numbers 'zs' (the first 'len' are its elements, the rest its spare room), each fitting its kind. -/
def IsRow (k : IntKind) (w : World) (a : Option Addr) (len cap : Nat) (zs : List Int) : Prop :=
  (a = none ∧ len = 0 ∧ cap = 0 ∧ zs = []) ∨
  ∃ x, a = some x ∧ len ≤ cap ∧ cap ≤ maxLen ∧ zs.length = cap ∧ (∀ i, i < zs.length → w.cell? (x.add i) = some (.int k (zs.getD i 0))) ∧ ∀ n ∈ zs, (Lit.int k n).wf = true

/-- Each number is one of an int64. -/
def In64 (xs : List Int) : Prop := ∀ x ∈ xs, -9223372036854775808 ≤ x ∧ x ≤ 9223372036854775807

theorem IsRow.sl {w : World} {a : Option Addr} {len cap : Nat} {zs : List Int} (h : IsRow .i64 w a len cap zs) :
    ∃ xs : List Int, xs.length = len ∧ len ≤ cap ∧ xs.length ≤ 9223372036854775807 ∧ Sl w w.heap.size a (ints xs) ∧ In64 xs := by
  rcases h with ⟨rfl, rfl, rfl, rfl⟩ | ⟨x, rfl, hl, hm, hz, hc, hw⟩
  · exact ⟨[], rfl, Nat.le_refl _, by simp, Sl.nil _ _ _, by simp [In64]⟩
  · have hm' : cap ≤ 9223372036854775807 := by simpa [maxLen] using hm
    refine ⟨zs.take len, by simp; omega, hl, by simp; omega, ?_, fun y hy => Go.bounds_i64 (hw y (List.mem_of_mem_take hy))⟩
    intro hpos
    have hp : 0 < zs.length := by simp [ints] at hpos; omega
    obtain ⟨b, o, rfl, hcell⟩ := Go.ints_at hc hp
    refine ⟨b, o, rfl, World.block_lt_of_cell? w _ (hcell 0 hp), fun k u hk => ?_⟩
    have hkl : k < (zs.take len).length := by
      have := (List.getElem?_eq_some_iff.1 hk).1
      simpa [ints] using this
    rw [ints_get hkl] at hk
    have hkz : k < zs.length := by simp at hkl; omega
    rw [hcell k hkz, ← hk]
    simp [hkz]

end Go.Proofs.Ytpmkdihencepnaa

/-
  What a row tells of a slice of slices of ints that came in, in this seat's own words.
-/
namespace Go.Proofs.Ytpmkdihencepnaa
open Go.RowKit Go.ChangeShapes Go.WideShapes Go.Deep

/-- WHAT THE WALK IS TOLD OF A SLICE OF SLICES OF INTEGERS THAT CAME IN: it reads as rows of int64. -/
def IsRows (w : World) (a : Option Addr) (len : Nat) : Prop :=
  ∃ rows : List (List Int), rows.length = len ∧ rows.length ≤ 9223372036854775807 ∧ SR w w.heap.size a rows ∧ ∀ r ∈ rows, In64 r

theorem cells_at {w : World} {a : Addr} {n : Nat} {V : Nat → Value} (h : ∀ i, i < n → w.cell? (a.add i) = some (V i)) (hp : 0 < n) :
    ∃ b off, a = ⟨b, off, none⟩ ∧ ∀ j, j < n → w.cell? ⟨b, off + j, none⟩ = some (V j) := by
  obtain ⟨b, off, spot⟩ := a
  have hspot : spot = none := by simpa [Addr.add] using World.cell?_spot (h 0 hp)
  subst hspot
  exact ⟨b, off, rfl, fun j hj => by rw [← Go.WideShapes.add_plain]; exact h j hj⟩

theorem Try.cellsOfSlice : Try.prog.cellsOf 26 = 1 := by kernel_rfl
theorem Try.cellsOfInt : Try.prog.cellsOf 3 = 1 := by kernel_rfl

theorem rows_open {H : Type} {enc : TypeId × Value → H} {w : World} {base fuel len cap : Nat} {held : Bool} {a : Option Addr} {x : DataW H × List MemPlace}
    (h : DataW.trod enc Try.prog w base (fun _ => true) held fuel 22 (Value.slice a len cap).cells.toList = some x) : IsRows w a len := by
  rcases open_int_rows Try.underlying22 Try.underlying26 Try.underlying3 Try.cellsOfSlice Try.cellsOfInt h with ⟨hcs, _⟩ | ⟨a', len', cap', A, L, C, Z, hcs, _, hl, hm, _, hx⟩
  · simp [Value.cells] at hcs
    obtain ⟨rfl, rfl, rfl⟩ := hcs
    exact ⟨[], rfl, by simp, SR.nil _ _ _, fun r hr => by cases hr⟩
  · simp [Value.cells] at hcs
    obtain ⟨rfl, rfl, rfl⟩ := hcs
    have hm' : cap ≤ 9223372036854775807 := by simpa [maxLen] using hm
    have hrow : ∀ r, r < cap → ((Z r).take (L r)).length = L r := fun r hr => by
      obtain ⟨_, h1, _, h2, _⟩ := hx r hr
      rw [List.length_take, h2]; omega
    have hget : ∀ r, r < len → ((List.range len).map (fun r => (Z r).take (L r))).getD r [] = (Z r).take (L r) := fun r hr => by simp [hr]
    refine ⟨(List.range len).map (fun r => (Z r).take (L r)), by simp, by simp; omega, ⟨(List.range len).map (fun r => .slice (A r) (L r) (C r)), by simp, fun hp => ?_, fun r hr => ?_⟩, fun r hr => ?_⟩
    · have hp' : 0 < cap := by simp at hp; omega
      obtain ⟨b, off, rfl, hc⟩ := cells_at (n := cap) (fun i hi => (hx i hi).1) hp'
      refine ⟨b, off, rfl, World.block_lt_of_cell? w _ (hc 0 hp'), fun k u hk => ?_⟩
      obtain ⟨hkl, e⟩ := List.getElem?_eq_some_iff.1 hk
      simp only [List.getElem_map, List.getElem_range] at e
      have hkl' : k < len := by simpa using hkl
      rw [hc k (by omega), e]
    · have hr' : r < len := by simpa using hr
      have hrc : r < cap := by omega
      obtain ⟨_, h1, h2, h3, h4, h5, h6⟩ := hx r hrc
      rw [hget r hr', hrow r hrc]
      refine ⟨A r, C r, by simp [hr'], fun hp => ?_, by have : maxLen = 9223372036854775807 := rfl; omega⟩
      have hLp : 0 < L r := by rw [ints_length, hrow r hrc] at hp; exact hp
      cases hA : A r with
      | none => have := h5 hA; omega
      | some a2 =>
        obtain ⟨_, hcell⟩ := h6 a2 hA
        obtain ⟨b, off, rfl, hc⟩ := Go.ints_at (zs := Z r) (fun i hi => hcell i (by rw [← h3]; exact hi)) (by rw [h3]; omega)
        refine ⟨b, off, rfl, World.block_lt_of_cell? w _ (hc 0 (by rw [h3]; omega)), fun k u hk => ?_⟩
        have hkl : k < ((Z r).take (L r)).length := by
          have := (List.getElem?_eq_some_iff.1 hk).1
          simpa [ints] using this
        rw [ints_get hkl] at hk
        have hkz : k < (Z r).length := by rw [List.length_take] at hkl; omega
        rw [hc k hkz, ← hk]
        simp [hkz]
    · obtain ⟨j, hj, rfl⟩ := List.mem_map.1 hr
      obtain ⟨_, _, _, _, h4, _⟩ := hx j (by have := List.mem_range.1 hj; omega)
      exact fun y hy => Go.bounds_i64 (h4 y (List.mem_of_mem_take hy))

end Go.Proofs.Ytpmkdihencepnaa

/-
  What the bulk says of a table that came in.
-/
namespace Go.Proofs.Ytpmkdihencepnaa
open Go.RowKit Go.ChangeShapes Go.WideShapes Go.Deep

theorem bulk_one {H : Type} (d : DataW H) : 1 ≤ Rows.uptoBulk d := by
  cases d with
  | lit l => cases l <;> simp [Rows.uptoBulk]
  | nil => simp [Rows.uptoBulk]
  | ptr d => simp [Rows.uptoBulk]
  | slice elems spare => simp [Rows.uptoBulk]
  | agg parts => simp [Rows.uptoBulk]
  | iface t d => simp [Rows.uptoBulk]
  | map entries => simp [Rows.uptoBulk]
  | held h => simp [Rows.uptoBulk]
theorem bulk_len {H : Type} : ∀ l : List (DataW H), l.length ≤ Rows.uptoBulkAll l
  | [] => Nat.zero_le _
  | x :: r => by
    have h1 := bulk_one x
    have h2 := bulk_len r
    simp only [Rows.uptoBulkAll, List.length_cons]; omega
theorem bulk_mem {H : Type} : ∀ {l : List (DataW H)} {d : DataW H}, d ∈ l → Rows.uptoBulk d ≤ Rows.uptoBulkAll l
  | [], d, h => by cases h
  | x :: r, d, h => by
    simp only [Rows.uptoBulkAll]
    rcases List.mem_cons.1 h with rfl | h
    · omega
    · have := bulk_mem h; omega
theorem bulk_row {H : Type} {A : Option Addr} {L : Nat} {zs : List Int} (h0 : A = none → L = 0) (hl : L ≤ zs.length) : L ≤ Rows.uptoBulk (intRow (H := H) .i64 A L zs) := by
  cases A with
  | none => rw [h0 rfl]; exact Nat.zero_le _
  | some a =>
    have := bulk_len (H := H) (lits .i64 (zs.take L))
    have hll : (lits (H := H) .i64 (zs.take L)).length = L := by simp [lits]; omega
    simp only [intRow, Rows.uptoBulk]
    omega
theorem rows_bulk {H : Type} {enc : TypeId × Value → H} {w : World} {base fuel len cap : Nat} {held : Bool} {a : Option Addr} {x : DataW H × List MemPlace}
    (h : DataW.trod enc Try.prog w base (fun _ => true) held fuel 22 (Value.slice a len cap).cells.toList = some x) : (∃ rows : List (List Int), rows.length = len ∧ SR w w.heap.size a rows ∧ ∀ r, (rows.getD r []).length ≤ Rows.uptoBulk x.1) ∧ len ≤ Rows.uptoBulk x.1 := by
  rcases open_int_rows Try.underlying22 Try.underlying26 Try.underlying3 Try.cellsOfSlice Try.cellsOfInt h with ⟨hcs, _⟩ | ⟨a', len', cap', A, L, C, Z, hcs, _, hl, hm, hxx, hx⟩
  · simp [Value.cells] at hcs
    obtain ⟨rfl, rfl, rfl⟩ := hcs
    exact ⟨⟨[], rfl, SR.nil _ _ _, fun r => by simp⟩, Nat.zero_le _⟩
  · simp [Value.cells] at hcs
    obtain ⟨rfl, rfl, rfl⟩ := hcs
    have hm' : cap ≤ 9223372036854775807 := by simpa [maxLen] using hm
    have hrow : ∀ r, r < cap → ((Z r).take (L r)).length = L r := fun r hr => by
      obtain ⟨_, h1, _, h2, _⟩ := hx r hr
      rw [List.length_take, h2]; omega
    have hget : ∀ r, r < len → ((List.range len).map (fun r => (Z r).take (L r))).getD r [] = (Z r).take (L r) := fun r hr => by simp [hr]
    have hb1 : len ≤ Rows.uptoBulk x.1 := by
      rw [hxx]
      have := bulk_len (H := H) ((List.range len).map fun r => intRow .i64 (A r) (L r) (Z r))
      rw [List.length_map, List.length_range] at this
      simp only [Rows.uptoBulk]
      omega
    have hb2 : ∀ r, r < len → L r ≤ Rows.uptoBulk x.1 := fun r hr => by
      rw [hxx]
      have h1 := bulk_mem (H := H) (l := (List.range len).map fun r => intRow .i64 (A r) (L r) (Z r)) (List.mem_map.2 ⟨r, List.mem_range.2 hr, rfl⟩)
      have h2 := bulk_row (H := H) (A := A r) (L := L r) (zs := Z r) (fun e => by
        obtain ⟨_, q1, _, _, _, q5, _⟩ := hx r (by omega)
        have := q5 e; omega) (by
        obtain ⟨_, q1, _, q3, _⟩ := hx r (by omega)
        omega)
      simp only [Rows.uptoBulk]
      omega
    refine ⟨⟨(List.range len).map (fun r => (Z r).take (L r)), by simp, ⟨(List.range len).map (fun r => .slice (A r) (L r) (C r)), by simp, fun hp => ?_, fun r hr => ?_⟩, fun r => ?_⟩, hb1⟩
    · have hp' : 0 < cap := by simp at hp; omega
      obtain ⟨b, off, rfl, hc⟩ := cells_at (n := cap) (fun i hi => (hx i hi).1) hp'
      refine ⟨b, off, rfl, World.block_lt_of_cell? w _ (hc 0 hp'), fun k u hk => ?_⟩
      obtain ⟨hkl, e⟩ := List.getElem?_eq_some_iff.1 hk
      simp only [List.getElem_map, List.getElem_range] at e
      have hkl' : k < len := by simpa using hkl
      rw [hc k (by omega), e]
    · have hr' : r < len := by simpa using hr
      have hrc : r < cap := by omega
      obtain ⟨_, h1, h2, h3, h4, h5, h6⟩ := hx r hrc
      rw [hget r hr', hrow r hrc]
      refine ⟨A r, C r, by simp [hr'], fun hp => ?_, by have : maxLen = 9223372036854775807 := rfl; omega⟩
      have hLp : 0 < L r := by rw [ints_length, hrow r hrc] at hp; exact hp
      cases hA : A r with
      | none => have := h5 hA; omega
      | some a2 =>
        obtain ⟨_, hcell⟩ := h6 a2 hA
        obtain ⟨b, off, rfl, hc⟩ := Go.ints_at (zs := Z r) (fun i hi => hcell i (by rw [← h3]; exact hi)) (by rw [h3]; omega)
        refine ⟨b, off, rfl, World.block_lt_of_cell? w _ (hc 0 (by rw [h3]; omega)), fun k u hk => ?_⟩
        have hkl : k < ((Z r).take (L r)).length := by
          have := (List.getElem?_eq_some_iff.1 hk).1
          simpa [ints] using this
        rw [ints_get hkl] at hk
        have hkz : k < (Z r).length := by rw [List.length_take] at hkl; omega
        rw [hc k hkz, ← hk]
        simp [hkz]
    · by_cases hr : r < len
      · rw [hget r hr, hrow r (by omega)]; exact hb2 r hr
      · rw [getD_far (by simp; omega)]; simp

end Go.Proofs.Ytpmkdihencepnaa
