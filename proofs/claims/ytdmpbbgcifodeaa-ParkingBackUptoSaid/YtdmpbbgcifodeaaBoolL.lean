/-
  Rows of bools that the call owns; base of a row lowered.
-/
import Derived.Test.YtdmpbbgcifodeaaShared
import Derived.Deep.Onto
namespace Go.Proofs.Ytdmpbbgcifodeaa
open Go.RowKit

theorem Try.infoBool : (Try.prog.info? 4).map (fun i => (i.zero, i.size, i.bytes)) = some (some (.bool false), 1, 1) := by kernel_rfl

/-- Bools as a row reads them. -/
def bools (bs : List Bool) : List Value := bs.map Value.bool
theorem bools_length (bs : List Bool) : (bools bs).length = bs.length := by simp [bools]

section
variable {w w' : World} {base n g c : Nat} {bs : List Bool}
theorem ownB_get {e : TypeId} (h : w.ownsRow base e 1 (.slice (some ⟨g, 0, none⟩) n c) n (bools bs)) {i : Nat} {z : Bool} (hz : bs[i]? = some z) : w.cell? ⟨g, i, none⟩ = some (.bool z) := by
  obtain ⟨hi, e1⟩ := List.getElem?_eq_some_iff.1 hz
  have hl := h.1
  rw [bools_length] at hl
  rw [h.cellAt i (by omega)]
  simp [bools, hi, e1]
theorem ownB_set {e : TypeId} (h : w.ownsRow base e 1 (.slice (some ⟨g, 0, none⟩) n c) n (bools bs)) (j : Nat) (y : Bool) :
    (w.setCell ⟨g, j, none⟩ (.bool y)).ownsRow base e 1 (.slice (some ⟨g, 0, none⟩) n c) n (bools (bs.set j y)) := by
  have := (h.stored j (.bool y)).1
  rwa [bools, ← List.map_set] at this

/-- 'make([]bool, n)'. -/
theorem wpList_mkB {ops : Array Oper} {rest : List Oper} {o : Oper} {a : Act} {Q : Exit → Act → World → Prop} (hgd : o.guard = none) (s x : Operand)
    (ho : o.op = Op.makeSlice 94 s x) (n : Nat) (hs : a.eval s = .int .i64 n) (hx : a.eval x = .int .i64 n) (hlen : n < 1000000) (hbase : base ≤ w.heap.size)
    (h : ∀ w', w'.ownsRow base 4 1 (.slice (some ⟨w.heap.size, 0, none⟩) n n) n (bools (List.replicate n false)) → Below w.heap.size w w' → w'.heap.size = w.heap.size + 1 →
      wpList Try.prog ops Q rest (a.put o.dst (.slice (some ⟨w.heap.size, 0, none⟩) n n)) w') :
    wpList Try.prog ops Q (o :: rest) a w := by
  obtain ⟨i0, hi, hz0, hz1, hz2⟩ := info_parts Try.infoBool
  have hrun := run_make (P := Try.prog) w 94 4 i0 (.bool false) Try.underlying94 hi hz0 .i64 .i64 n n (by omega) (by omega) (by rw [hz2]; omega) (by omega)
  refine wpList_plain hgd fun K hK => ?_
  unfold Oper.wp
  simp [execOp, ho, hs, hx, hrun, Result.andThen]
  refine hK _ _ (h _ ?_ ((Below.refl _ _).alloc (Nat.le_refl _) _) (by simp))
  have := World.ownsRow_lit (e := 4) (size := 1) (base := base) w (madeCells (Value.bool false).cells (n * i0.size)) n hbase (by unfold maxLen; omega) (by rw [size_madeCells, hz1])
  have e : (madeCells (Value.bool false).cells (n * i0.size)).toList = bools (List.replicate n false) := by
    rw [hz1]; simp [Value.cells, toList_madeCells_one, bools]
  rwa [e] at this
end

/-- 'append(v, x)' of one int, where the walk writes the new block's number otherwise. -/
theorem wpList_app1h {w : World} {base : Nat} {l : List Int} {v : Value} {ops : Array Oper} {rest : List Oper} {o : Oper} {a : Act} {Q : Exit → Act → World → Prop} (hgd : o.guard = none) (s x : Operand)
    (ho : o.op = .call { callee := .builtin .append, args := #[s, x], argTypes := #[22, 22] }) (hs : a.eval s = v) (y : Int) {n : Nat}
    (hown : w.ownsRow base 3 1 v n (ints l)) (g0 : Nat) (hg0 : g0 = w.heap.size) (hx : a.eval x = .slice (some ⟨g0, 0, none⟩) 1 1) (hlen : n < 1000000) (hbase : base ≤ w.heap.size)
    (h : ∀ g cap w', w'.ownsRow base 3 1 (.slice (some ⟨g, 0, none⟩) (n + 1) cap) (n + 1) (ints (l ++ [y])) → Below base w w' →
      wpList Try.prog ops Q rest (a.put o.dst (.slice (some ⟨g, 0, none⟩) (n + 1) cap)) w') :
    wpList Try.prog ops Q (o :: rest) a (w.alloc (.cells #[.int .i64 y] 3)) := by
  subst hg0
  exact wpList_app1 hgd s x ho hs y hown hx hlen hbase h

/-- Which of n places stand in a list. -/
def marks (n : Nat) (q : List Int) : List Bool := (List.range n).map (fun s : Nat => decide ((s : Int) ∈ q))
theorem marks_nil (n : Nat) : marks n [] = List.replicate n false := by
  unfold marks
  apply List.ext_getElem
  · simp
  · intro i h1 h2; simp
theorem marks_get {n i : Nat} {q : List Int} (h : i < n) : (marks n q)[i]? = some (decide ((i : Int) ∈ q)) := by
  simp [marks, h]
theorem marks_snoc {n i : Nat} {q : List Int} : (marks n q).set i true = marks n (q ++ [(i : Int)]) := by
  unfold marks
  apply List.ext_getElem
  · simp
  · intro j h1 h2
    rw [List.getElem_set]
    simp only [List.getElem_map, List.getElem_range]
    by_cases e : i = j
    · subst e; rw [if_pos rfl]; symm; simp
    · rw [if_neg e]
      have : ((j : Int) ∈ q ++ [(i : Int)]) ↔ (j : Int) ∈ q := by
        rw [List.mem_append, List.mem_singleton]
        constructor
        · rintro (h | h)
          · exact h
          · omega
        · exact .inl
      simp only [this]

end Go.Proofs.Ytdmpbbgcifodeaa
