/-
  Rows made ahead and laid in one by one.
-/
import Derived.Test.YtdmpbbgcifodeaaCube5W
import Derived.Test.YtdmpbbgcifodeaaSign4W
namespace Go.Proofs.Ytdmpbbgcifodeaa
open Go.RowKit

/-- 'make([][]int, n)'. -/
theorem wpList_mkM {w : World} {base : Nat} {ops : Array Oper} {rest : List Oper} {o : Oper} {a : Act} {Q : Exit → Act → World → Prop} (hgd : o.guard = none) (s x : Operand)
    (ho : o.op = Op.makeSlice 36 s x) (n : Nat) (hs : a.eval s = .int .i64 n) (hx : a.eval x = .int .i64 n) (hlen : n < 1000000) (hbase : base ≤ w.heap.size)
    (h : ∀ w', OwnM w' base (.slice (some ⟨w.heap.size, 0, none⟩) n n) (List.replicate n (.slice none 0 0)) (List.replicate n []) → Below w.heap.size w w' → w'.heap.size = w.heap.size + 1 →
      wpList Try.prog ops Q rest (a.put o.dst (.slice (some ⟨w.heap.size, 0, none⟩) n n)) w') :
    wpList Try.prog ops Q (o :: rest) a w := by
  obtain ⟨i0, hi, hz0, hz1, hz2⟩ := info_parts Try.infoSlice
  have hrun := run_make (P := Try.prog) w 36 22 i0 (.slice none 0 0) Try.underlying36 hi hz0 .i64 .i64 n n (by omega) (by omega) (by rw [hz2]; omega) (by omega)
  refine wpList_plain hgd fun K hK => ?_
  unfold Oper.wp
  simp [execOp, ho, hs, hx, hrun, Result.andThen]
  refine hK _ _ (h _ ?_ ((Below.refl _ _).alloc (Nat.le_refl _) _) (by simp))
  have := World.ownsRow_lit (e := 22) (size := 1) (base := base) w (madeCells (Value.slice none 0 0).cells (n * i0.size)) n hbase (by unfold maxLen; omega) (by rw [size_madeCells, hz1])
  have e : (madeCells (Value.slice none 0 0).cells (n * i0.size)).toList = List.replicate n (.slice none 0 0) := by
    rw [hz1]; simp [Value.cells, toList_madeCells_one]
  rw [e] at this
  have hg : ∀ r, r < n → (List.replicate n (Value.slice none 0 0)).getD r undef = .slice none 0 0 := fun r hr => by
    rw [List.getD_eq_getElem?_getD]; simp [hr]
  refine ⟨by simp, by simpa using this, fun r hr => ?_, fun r s hr hs' hne => ?_, fun r hr => ?_⟩
  · have hr' : r < n := by simpa using hr
    rw [hg r hr', show (List.replicate n ([] : List Int)).getD r [] = [] by rw [List.getD_eq_getElem?_getD]; simp [hr']]
    exact World.ownsRow_nil _ _ _ _
  · rw [hg r (by simpa using hr)]; intro k hk; simp [Value.ownBlock] at hk
  · rw [hg r (by simpa using hr)]; intro k _ e; simp [Value.ownBlock] at e

/-- A row laid in. -/
theorem OwnM.putRow {w : World} {B g n c : Nat} {hs : List Value} {rows : List (List Int)} (h : OwnM w B (.slice (some ⟨g, 0, none⟩) n c) hs rows) {i : Nat} (hi : i < rows.length) {u : Value} {l : List Int} (hu : w.ownsRow B 3 1 u l.length (ints l))
    (hf : ∀ r, r < rows.length → Far (hs.getD r undef) u) (hv : Far (.slice (some ⟨g, 0, none⟩) n c) u) :
    OwnM (w.setCell ⟨g, i, none⟩ u) B (.slice (some ⟨g, 0, none⟩) n c) (hs.set i u) (rows.set i l) := by
  have hL : (rows.set i l).length = rows.length := by simp
  have hn : n = rows.length := by
    rcases h.out.2 with ⟨e1, _⟩ | ⟨_, _, _, e1, _⟩
    · cases e1
    · injection e1
  subst hn
  have hil : i < hs.length := by rw [h.len]; exact hi
  have other : ∀ {base m : Nat} {e : TypeId} {x : Value} {cs : List Value}, w.ownsRow base e 1 x m cs → (∀ k, x.ownBlock = some k → k ≠ g) → (w.setCell ⟨g, i, none⟩ u).ownsRow base e 1 x m cs := by
    intro base m e x cs ho hne
    refine ⟨ho.1, ?_⟩
    rcases ho.2 with hn | ⟨g', cap, cur, e1, hg', hh, rest⟩
    · exact .inl hn
    · refine .inr ⟨g', cap, cur, e1, hg', ?_, rest⟩
      have : g' ≠ g := hne g' (by rw [e1]; rfl)
      rw [← hh]
      simp [World.setCell, Array.getElem?_modify, Ne.symm this]
  have hgb : ∀ x : Value, Far (.slice (some ⟨g, 0, none⟩) rows.length c) x → ∀ k, x.ownBlock = some k → k ≠ g := fun x hf k hk e => by
    subst e; exact hf k rfl hk
  have here : (hs.set i u).getD i undef = u ∧ (rows.set i l).getD i [] = l := by
    rw [List.getD_eq_getElem?_getD, List.getD_eq_getElem?_getD, List.getElem?_set_self hil, List.getElem?_set_self hi]; exact ⟨rfl, rfl⟩
  have there : ∀ r, r ≠ i → (hs.set i u).getD r undef = hs.getD r undef ∧ (rows.set i l).getD r [] = rows.getD r [] := fun r hr => by
    simp only [List.getD_eq_getElem?_getD, List.getElem?_set_ne (fun e => hr (Eq.symm e))]; exact ⟨trivial, trivial⟩
  refine ⟨by rw [hL, List.length_set]; exact h.len, ?_, fun r hr => ?_, fun r s hr hs' hne => ?_, fun r hr => ?_⟩
  · rw [hL]; exact (h.out.stored i u).1
  · rw [hL] at hr
    by_cases e : r = i
    · subst e; rw [here.1, here.2]; exact other hu (hgb u hv)
    · rw [(there r e).1, (there r e).2]; exact other (h.inn r hr) (hgb _ (h.top r hr))
  · rw [hL] at hr hs'
    by_cases e : r = i
    · subst e
      rw [here.1, (there s (Ne.symm hne)).1]; exact (hf s hs').symm
    · by_cases e2 : s = i
      · subst e2
        rw [here.1, (there r hne).1]; exact hf r hr
      · rw [(there r e).1, (there s e2).1]; exact h.far r s hr hs' hne
  · rw [hL] at hr
    by_cases e : r = i
    · subst e; rw [here.1]; exact hv
    · rw [(there r e).1]; exact h.top r hr
end Go.Proofs.Ytdmpbbgcifodeaa
