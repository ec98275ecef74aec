/-
  Slices of slices of int64 that the call made: the words of MatL over again (printed by wip/mk64.py).
-/
import Derived.Test.YtdmpbbgcifodeaaMatL
import Derived.Test.YtdmpbbgcifodeaaBoolL
namespace Go.Proofs.Ytdmpbbgcifodeaa
open Go.RowKit

theorem Try.info64 : (Try.prog.info? 2).map (fun i => (i.zero, i.size, i.bytes)) = some (some (.int .i64 0), 1, 8) := by kernel_rfl
theorem Try.infoSlice64 : (Try.prog.info? 110).map (fun i => (i.zero, i.size, i.bytes)) = some (some (.slice none 0 0), 1, 24) := by kernel_rfl

theorem wpList_mk64 {w : World} {base : Nat} {ops : Array Oper} {rest : List Oper} {o : Oper} {a : Act} {Q : Exit → Act → World → Prop} (hgd : o.guard = none) (s x : Operand)
    (ho : o.op = Op.makeSlice 110 s x) (n : Nat) (hs : a.eval s = .int .i64 n) (hx : a.eval x = .int .i64 n) (hlen : n < 1000000) (hbase : base ≤ w.heap.size)
    (h : ∀ w', w'.ownsRow base 2 1 (.slice (some ⟨w.heap.size, 0, none⟩) n n) n (ints (List.replicate n 0)) → Below w.heap.size w w' → w'.heap.size = w.heap.size + 1 →
      wpList Try.prog ops Q rest (a.put o.dst (.slice (some ⟨w.heap.size, 0, none⟩) n n)) w') :
    wpList Try.prog ops Q (o :: rest) a w := by
  obtain ⟨i0, hi, hz0, hz1, hz2⟩ := info_parts Try.info64
  have hrun := run_make (P := Try.prog) w 110 2 i0 (.int .i64 0) Try.underlying110 hi hz0 .i64 .i64 n n (by omega) (by omega) (by rw [hz2]; omega) (by omega)
  refine wpList_plain hgd fun K hK => ?_
  unfold Oper.wp
  simp [execOp, ho, hs, hx, hrun, Result.andThen]
  refine hK _ _ (h _ ?_ ((Below.refl _ _).alloc (Nat.le_refl _) _) (by simp))
  have := World.ownsRow_lit (e := 2) (size := 1) (base := base) w (madeCells (Value.int .i64 0).cells (n * i0.size)) n hbase (by unfold maxLen; omega) (by rw [size_madeCells, hz1])
  have e : (madeCells (Value.int .i64 0).cells (n * i0.size)).toList = ints (List.replicate n 0) := by
    rw [hz1]; simp [Value.cells, toList_madeCells_one, ints]
  rwa [e] at this
/-- A value that owns a row, as a slice that reads. -/
theorem own_slice64 {w : World} {base n : Nat} {v : Value} {xs : List Int} (h : w.ownsRow base 2 1 v n (ints xs)) : ∃ A c, v = .slice A xs.length c ∧ n = xs.length ∧ Sl w w.heap.size A (ints xs) ∧ xs.length ≤ c ∧ c ≤ 9223372036854775807 := by
  have hl : xs.length = n := by have := h.1; rw [ints_length] at this; omega
  subst hl
  rcases h.2 with ⟨e1, e2⟩ | ⟨g, c, _, e1, _⟩
  · refine ⟨none, 0, by rw [e2]; exact e1, rfl, ?_, by omega, by omega⟩
    rw [List.eq_nil_of_length_eq_zero e2]; exact Sl.nil _ _ _
  · rw [e1] at h
    exact ⟨_, c, e1, rfl, Sl.of_own h, (own_cap h).1, (own_cap h).2⟩

/-- A slice of slices of ints that the call owns, hs the rows' values. -/
structure OwnN (w : World) (B : Nat) (v : Value) (hs : List Value) (rows : List (List Int)) : Prop where
  len : hs.length = rows.length
  out : w.ownsRow B 110 1 v rows.length hs
  inn : ∀ r, r < rows.length → w.ownsRow B 2 1 (hs.getD r undef) (rows.getD r []).length (ints (rows.getD r []))
  far : ∀ r s, r < rows.length → s < rows.length → r ≠ s → Far (hs.getD r undef) (hs.getD s undef)
  top : ∀ r, r < rows.length → Far v (hs.getD r undef)

section
variable {w w' : World} {B : Nat} {v : Value} {hs : List Value} {rows : List (List Int)}
theorem OwnN.nil (w : World) (B : Nat) : OwnN w B (.slice none 0 0) [] [] :=
  ⟨rfl, World.ownsRow_nil _ _ _ _, fun r hr => by simp at hr, fun r s hr => by simp at hr, fun r hr => by simp at hr⟩
theorem OwnN.below (h : OwnN w B v hs rows) (hb : Below w.heap.size w w') : OwnN w' B v hs rows :=
  ⟨h.len, own_below h.out hb, fun r hr => own_below (h.inn r hr) hb, h.far, h.top⟩
theorem OwnN.alloc (h : OwnN w B v hs rows) (o : Obj) : OwnN (w.alloc o) B v hs rows :=
  ⟨h.len, h.out.alloc o, fun r hr => (h.inn r hr).alloc o, h.far, h.top⟩
theorem OwnN.drewN (h : OwnN w B v hs rows) (k : Nat) : OwnN (w.drewN k) B v hs rows := ⟨h.len, h.out, h.inn, h.far, h.top⟩
theorem OwnN.get (h : OwnN w B v hs rows) {r : Nat} (hr : r < rows.length) : hs[r]? = some (hs.getD r undef) := by
  have : r < hs.length := by rw [h.len]; exact hr
  rw [List.getD_eq_getElem?_getD]; simp [this]
/-- As a slice that reads. -/
theorem OwnN.sr (h : OwnN w B v hs rows) : ∃ A c, v = .slice A rows.length c ∧ SR w w.heap.size A rows ∧ rows.length ≤ c ∧ c ≤ 9223372036854775807 := by
  have key : ∀ A, Sl w w.heap.size A hs → SR w w.heap.size A rows := fun A hA => ⟨hs, h.len, hA, fun r hr => by
    obtain ⟨Ar, cr, e, _, hsl, e1, e2⟩ := own_slice64 (h.inn r hr)
    exact ⟨Ar, cr, by rw [h.get hr, e], hsl, by omega⟩⟩
  rcases h.out.2 with ⟨e1, e2⟩ | ⟨g, c, _, e1, _⟩
  · refine ⟨none, 0, by rw [e2]; exact e1, key none ?_, by omega, by omega⟩
    have hz : hs = [] := List.eq_nil_of_length_eq_zero (by rw [h.len]; exact e2)
    rw [hz]; exact Sl.nil _ _ _
  · have ho := h.out
    rw [e1] at ho
    exact ⟨_, c, e1, key _ (Sl.of_own ho), (own_cap ho).1, (own_cap ho).2⟩
end
/-- The value of the r-th row, where it has something. -/
theorem OwnN.row {w : World} {B g n c : Nat} {hs : List Value} {rows : List (List Int)} (h : OwnN w B (.slice (some ⟨g, 0, none⟩) n c) hs rows) {r : Nat} (hr : r < rows.length) (hp : 0 < (rows.getD r []).length) :
    ∃ gr cr, hs.getD r undef = .slice (some ⟨gr, 0, none⟩) (rows.getD r []).length cr ∧ w.cell? ⟨g, r, none⟩ = some (.slice (some ⟨gr, 0, none⟩) (rows.getD r []).length cr) ∧
      w.ownsRow B 2 1 (.slice (some ⟨gr, 0, none⟩) (rows.getD r []).length cr) (rows.getD r []).length (ints (rows.getD r [])) ∧ B ≤ gr ∧ gr < w.heap.size := by
  have hi := h.inn r hr
  obtain ⟨gr, cr, e, h1, h2⟩ := hi.form hp
  refine ⟨gr, cr, e, ?_, by rw [← e]; exact hi, h1, h2⟩
  have ho := h.out
  have hn : n = rows.length := by
    rcases ho.2 with ⟨e1, _⟩ | ⟨_, _, _, e1, _⟩
    · cases e1
    · injection e1
  subst hn
  rw [ho.cellAt r (by omega), h.get hr, e]
theorem OwnN.far_new {w : World} {B : Nat} {v : Value} {hs : List Value} {rows : List (List Int)} (h : OwnN w B v hs rows) {u : Value} (hu : ∀ k, u.ownBlock = some k → w.heap.size ≤ k) : (∀ r, r < rows.length → Far (hs.getD r undef) u) ∧ Far v u :=
  ⟨fun r hr k hk e => by have := ((h.inn r hr).lt k hk).2; have := hu k e; omega, fun k hk e => by have := (h.out.lt k hk).2; have := hu k e; omega⟩
/-- A cell of one row turned. -/
theorem OwnN.setIn {w : World} {B : Nat} {v : Value} {hs : List Value} {rows : List (List Int)} (h : OwnN w B v hs rows) {r g c : Nat} (hr : r < rows.length) (hg : hs.getD r undef = .slice (some ⟨g, 0, none⟩) (rows.getD r []).length c) (j : Nat) (y : Int) :
    OwnN (w.setCell ⟨g, j, none⟩ (.int .i64 y)) B v hs (rows.set r ((rows.getD r []).set j y)) := by
  have other : ∀ {base n : Nat} {e : TypeId} {u : Value} {cs : List Value}, w.ownsRow base e 1 u n cs → (∀ k, u.ownBlock = some k → k ≠ g) → (w.setCell ⟨g, j, none⟩ (.int .i64 y)).ownsRow base e 1 u n cs := by
    intro base n e u cs ho hne
    refine ⟨ho.1, ?_⟩
    rcases ho.2 with hn | ⟨g', cap, cur, e1, hg', hh, rest⟩
    · exact .inl hn
    · refine .inr ⟨g', cap, cur, e1, hg', ?_, rest⟩
      have : g' ≠ g := hne g' (by rw [e1]; rfl)
      rw [← hh]
      simp [World.setCell, Array.getElem?_modify, Ne.symm this]
  have hgb : ∀ u : Value, Far u (hs.getD r undef) → ∀ k, u.ownBlock = some k → k ≠ g := fun u hf k hk e => by
    subst e; exact hf k hk (by rw [hg]; rfl)
  have hL : (rows.set r ((rows.getD r []).set j y)).length = rows.length := by simp
  refine ⟨by rw [hL]; exact h.len, by rw [hL]; exact other h.out (hgb v (h.top r hr)), fun s hs' => ?_, fun s t hs' ht hne => h.far s t (by rw [hL] at hs'; exact hs') (by rw [hL] at ht; exact ht) hne, fun s hs' => h.top s (by rw [hL] at hs'; exact hs')⟩
  rw [hL] at hs'
  by_cases e : s = r
  · subst e
    have e1 : (rows.set s ((rows.getD s []).set j y)).getD s [] = (rows.getD s []).set j y := by
      rw [List.getD_eq_getElem?_getD, List.getElem?_set_self hs']; rfl
    rw [e1, List.length_set]
    have hi := h.inn s hs'
    rw [hg] at hi ⊢
    exact own_set hi j y
  · have e1 : (rows.set r ((rows.getD r []).set j y)).getD s [] = rows.getD s [] := by
      rw [List.getD_eq_getElem?_getD, List.getElem?_set_ne (fun e2 => e e2.symm), ← List.getD_eq_getElem?_getD]
    rw [e1]
    exact other (h.inn s hs') (hgb _ (h.far s r hs' hr e))
/-- 'make([][]int, n)'. -/
theorem wpList_mkN {w : World} {base : Nat} {ops : Array Oper} {rest : List Oper} {o : Oper} {a : Act} {Q : Exit → Act → World → Prop} (hgd : o.guard = none) (s x : Operand)
    (ho : o.op = Op.makeSlice 108 s x) (n : Nat) (hs : a.eval s = .int .i64 n) (hx : a.eval x = .int .i64 n) (hlen : n < 1000000) (hbase : base ≤ w.heap.size)
    (h : ∀ w', OwnN w' base (.slice (some ⟨w.heap.size, 0, none⟩) n n) (List.replicate n (.slice none 0 0)) (List.replicate n []) → Below w.heap.size w w' → w'.heap.size = w.heap.size + 1 →
      wpList Try.prog ops Q rest (a.put o.dst (.slice (some ⟨w.heap.size, 0, none⟩) n n)) w') :
    wpList Try.prog ops Q (o :: rest) a w := by
  obtain ⟨i0, hi, hz0, hz1, hz2⟩ := info_parts Try.infoSlice64
  have hrun := run_make (P := Try.prog) w 108 110 i0 (.slice none 0 0) Try.underlying108 hi hz0 .i64 .i64 n n (by omega) (by omega) (by rw [hz2]; omega) (by omega)
  refine wpList_plain hgd fun K hK => ?_
  unfold Oper.wp
  simp [execOp, ho, hs, hx, hrun, Result.andThen]
  refine hK _ _ (h _ ?_ ((Below.refl _ _).alloc (Nat.le_refl _) _) (by simp))
  have := World.ownsRow_lit (e := 110) (size := 1) (base := base) w (madeCells (Value.slice none 0 0).cells (n * i0.size)) n hbase (by unfold maxLen; omega) (by rw [size_madeCells, hz1])
  have e : (madeCells (Value.slice none 0 0).cells (n * i0.size)).toList = List.replicate n (.slice none 0 0) := by
    rw [hz1]; simp [Value.cells, toList_madeCells_one]
  rw [e] at this
  have hg : ∀ r, r < n → (List.replicate n (Value.slice none 0 0)).getD r undef = .slice none 0 0 := fun r hr => by
    rw [List.getD_eq_getElem?_getD]; simp [hr]
  refine ⟨by simp, by simpa using this, fun r hr => ?_, fun r s hr hs' hne => ?_, fun r hr => ?_⟩
  · have hr' : r < n := by simpa using hr
    rw [hg r hr', show (List.replicate n ([] : List Int)).getD r [] = [] by rw [List.getD_eq_getElem?_getD]; simp [hr']]
    exact World.ownsRow_nil _ _ _ _
  · rw [hg r (by simpa using hr)]; intro k hk; simp [Value.ownBlock] at hk
  · rw [hg r (by simpa using hr)]; intro k _ e; simp [Value.ownBlock] at e

/-- A row laid in. -/
theorem OwnN.putRow {w : World} {B g n c : Nat} {hs : List Value} {rows : List (List Int)} (h : OwnN w B (.slice (some ⟨g, 0, none⟩) n c) hs rows) {i : Nat} (hi : i < rows.length) {u : Value} {l : List Int} (hu : w.ownsRow B 2 1 u l.length (ints l))
    (hf : ∀ r, r < rows.length → Far (hs.getD r undef) u) (hv : Far (.slice (some ⟨g, 0, none⟩) n c) u) :
    OwnN (w.setCell ⟨g, i, none⟩ u) B (.slice (some ⟨g, 0, none⟩) n c) (hs.set i u) (rows.set i l) := by
  have hL : (rows.set i l).length = rows.length := by simp
  have hn : n = rows.length := by
    rcases h.out.2 with ⟨e1, _⟩ | ⟨_, _, _, e1, _⟩
    · cases e1
    · injection e1
  subst hn
  have hil : i < hs.length := by rw [h.len]; exact hi
  have other : ∀ {base m : Nat} {e : TypeId} {x : Value} {cs : List Value}, w.ownsRow base e 1 x m cs → (∀ k, x.ownBlock = some k → k ≠ g) → (w.setCell ⟨g, i, none⟩ u).ownsRow base e 1 x m cs := by
    intro base m e x cs ho hne
    refine ⟨ho.1, ?_⟩
    rcases ho.2 with hn | ⟨g', cap, cur, e1, hg', hh, rest⟩
    · exact .inl hn
    · refine .inr ⟨g', cap, cur, e1, hg', ?_, rest⟩
      have : g' ≠ g := hne g' (by rw [e1]; rfl)
      rw [← hh]
      simp [World.setCell, Array.getElem?_modify, Ne.symm this]
  have hgb : ∀ x : Value, Far (.slice (some ⟨g, 0, none⟩) rows.length c) x → ∀ k, x.ownBlock = some k → k ≠ g := fun x hf k hk e => by
    subst e; exact hf k rfl hk
  have here : (hs.set i u).getD i undef = u ∧ (rows.set i l).getD i [] = l := by
    rw [List.getD_eq_getElem?_getD, List.getD_eq_getElem?_getD, List.getElem?_set_self hil, List.getElem?_set_self hi]; exact ⟨rfl, rfl⟩
  have there : ∀ r, r ≠ i → (hs.set i u).getD r undef = hs.getD r undef ∧ (rows.set i l).getD r [] = rows.getD r [] := fun r hr => by
    simp only [List.getD_eq_getElem?_getD, List.getElem?_set_ne (fun e => hr (Eq.symm e))]; exact ⟨trivial, trivial⟩
  refine ⟨by rw [hL, List.length_set]; exact h.len, ?_, fun r hr => ?_, fun r s hr hs' hne => ?_, fun r hr => ?_⟩
  · rw [hL]; exact (h.out.stored i u).1
  · rw [hL] at hr
    by_cases e : r = i
    · subst e; rw [here.1, here.2]; exact other hu (hgb u hv)
    · rw [(there r e).1, (there r e).2]; exact other (h.inn r hr) (hgb _ (h.top r hr))
  · rw [hL] at hr hs'
    by_cases e : r = i
    · subst e
      rw [here.1, (there s (Ne.symm hne)).1]; exact (hf s hs').symm
    · by_cases e2 : s = i
      · subst e2
        rw [here.1, (there r hne).1]; exact hf r hr
      · rw [(there r e).1, (there s e2).1]; exact h.far r s hr hs' hne
  · rw [hL] at hr
    by_cases e : r = i
    · subst e; rw [here.1]; exact hv
    · rw [(there r e).1]; exact h.top r hr
end Go.Proofs.Ytdmpbbgcifodeaa
