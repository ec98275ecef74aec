/-
  Rows grown: what a call that appends to one leaves.
-/
import Derived.Test.YtmlmdklheiafpaaDoorRowsA
import Derived.Test.YtmlmdklheiafpaaDoorPlacT
import Derived.Deep.AppendLies
namespace Go.Proofs.YtmlmdklheiafpaaDoor
open Go.RowKit

/-- 'append(v, x)' of one int, with what else it leaves. -/
theorem wpList_app1g {w : World} {base : Nat} {l : List Int} {v : Value} {ops : Array Oper} {rest : List Oper} {o : Oper} {a : Act} {Q : Exit → Act → World → Prop} (hgd : o.guard = none) (s x : Operand)
    (ho : o.op = .call { callee := .builtin .append, args := #[s, x], argTypes := #[34, 34] }) (hs : a.eval s = v) (y : Int) {n : Nat}
    (hown : w.ownsRow base 3 1 v n (ints l)) (g0 : Nat) (hg0 : g0 = w.heap.size) (hx : a.eval x = .slice (some ⟨g0, 0, none⟩) 1 1) (hlen : n < 1000000) (hbase : base ≤ w.heap.size)
    (h : ∀ g cap w', w'.ownsRow base 3 1 (.slice (some ⟨g, 0, none⟩) (n + 1) cap) (n + 1) (ints (l ++ [y])) → (w.alloc (.cells #[.int .i64 y] 3)).grownBy w' v.ownBlock → (v.ownBlock = some g ∨ g = w.heap.size + 1) →
      wpList Tryd.prog ops Q rest (a.put o.dst (.slice (some ⟨g, 0, none⟩) (n + 1) cap)) w') :
    wpList Tryd.prog ops Q (o :: rest) a (w.alloc (.cells #[.int .i64 y] 3)) := by
  subst hg0
  obtain ⟨i0, hi, hz0, hz1, hz2⟩ := info_parts Tryd.infoInt
  refine wpList_append_lies _ hgd s x 34 ho base 3 i0 (.int .i64 0) 1 8 Tryd.underlying34 hi hz0 hz1 hz2 rfl (by decide) v n (ints l) hs (hown.alloc _) ⟨w.heap.size, 0, none⟩ 1 1 [.int .i64 y] hx rfl ?_ (by simp [Value.oneCell']) (by decide)
    (by unfold maxLen; omega) (by omega) (by simp; omega) _ rfl (fun g cap w' h1 h2 h3 _ => ?_)
  · intro j u hu
    match j, hu with
    | 0, hu => simp at hu; subst hu; simp [Addr.add]
  · exact h g cap w' (by simpa [ints] using h1) h2 (by simpa using h3)

theorem OwnM.put2 {w : World} {B g n c : Nat} {hs : List Value} {rows : List (List Int)} (hlen : hs.length = rows.length) (hn : n = rows.length) (hout : w.ownsRow B 34 1 (.slice (some ⟨g, 0, none⟩) n c) n hs) {i : Nat} (hi : i < rows.length)
    (hinn : ∀ r, r < rows.length → r ≠ i → w.ownsRow B 3 1 (hs.getD r undef) (rows.getD r []).length (ints (rows.getD r [])))
    (hfar : ∀ r s, r < rows.length → s < rows.length → r ≠ i → s ≠ i → r ≠ s → Far (hs.getD r undef) (hs.getD s undef))
    (htop : ∀ r, r < rows.length → r ≠ i → Far (.slice (some ⟨g, 0, none⟩) n c) (hs.getD r undef))
    {u : Value} {l : List Int} (hu : w.ownsRow B 3 1 u l.length (ints l)) (hf : ∀ r, r < rows.length → r ≠ i → Far (hs.getD r undef) u) (hv : Far (.slice (some ⟨g, 0, none⟩) n c) u) :
    OwnM (w.setCell ⟨g, i, none⟩ u) B (.slice (some ⟨g, 0, none⟩) n c) (hs.set i u) (rows.set i l) := by
  have hL : (rows.set i l).length = rows.length := by simp
  subst hn
  have hil : i < hs.length := by rw [hlen]; exact hi
  have other : ∀ {base m : Nat} {e : TypeId} {x : Value} {cs : List Value}, w.ownsRow base e 1 x m cs → (∀ k, x.ownBlock = some k → k ≠ g) → (w.setCell ⟨g, i, none⟩ u).ownsRow base e 1 x m cs := by
    intro base m e x cs ho hne
    refine ⟨ho.1, ?_⟩
    rcases ho.2 with hn | ⟨g', cap, cur, e1, hg', hh, rest⟩
    · exact .inl hn
    · refine .inr ⟨g', cap, cur, e1, hg', ?_, rest⟩
      have : g' ≠ g := hne g' (by rw [e1]; rfl)
      rw [← hh]
      simp [World.setCell, Array.getElem?_modify, Ne.symm this]
  have hgb : ∀ x : Value, Far (.slice (some ⟨g, 0, none⟩) rows.length c) x → ∀ k, x.ownBlock = some k → k ≠ g := fun x hf k hk e => by
    subst e; exact hf k rfl hk
  have here : (hs.set i u).getD i undef = u ∧ (rows.set i l).getD i [] = l := by
    rw [List.getD_eq_getElem?_getD, List.getD_eq_getElem?_getD, List.getElem?_set_self hil, List.getElem?_set_self hi]; exact ⟨rfl, rfl⟩
  have there : ∀ r, r ≠ i → (hs.set i u).getD r undef = hs.getD r undef ∧ (rows.set i l).getD r [] = rows.getD r [] := fun r hr => by
    simp only [List.getD_eq_getElem?_getD, List.getElem?_set_ne (fun e => hr (Eq.symm e))]; exact ⟨trivial, trivial⟩
  refine ⟨by rw [hL, List.length_set]; exact hlen, ?_, fun r hr => ?_, fun r s hr hs' hne => ?_, fun r hr => ?_⟩
  · rw [hL]; exact (hout.stored i u).1
  · rw [hL] at hr
    by_cases e : r = i
    · subst e; rw [here.1, here.2]; exact other hu (hgb u hv)
    · rw [(there r e).1, (there r e).2]; exact other (hinn r hr e) (hgb _ (htop r hr e))
  · rw [hL] at hr hs'
    by_cases e : r = i
    · subst e
      rw [here.1, (there s (Ne.symm hne)).1]; exact (hf s hs' (Ne.symm hne)).symm
    · by_cases e2 : s = i
      · subst e2
        rw [here.1, (there r hne).1]; exact hf r hr hne
      · rw [(there r e).1, (there s e2).1]; exact hfar r s hr hs' e e2 hne
  · rw [hL] at hr
    by_cases e : r = i
    · subst e; rw [here.1]; exact hv
    · rw [(there r e).1]; exact htop r hr e
/-- A row that was appended to, laid back in its place. -/
theorem OwnM.app {w w' : World} {B G n c : Nat} {hs : List Value} {rows : List (List Int)} (h : OwnM w B (.slice (some ⟨G, 0, none⟩) n c) hs rows) {i : Nat} (hi : i < rows.length) {l : List Int} {g cap m : Nat} {o : Obj} (hm : m = l.length)
    (ho : w'.ownsRow B 3 1 (.slice (some ⟨g, 0, none⟩) m cap) m (ints l)) (hg : (w.alloc o).grownBy w' (hs.getD i undef).ownBlock) (hat : (hs.getD i undef).ownBlock = some g ∨ g = w.heap.size + 1) :
    OwnM (w'.setCell ⟨G, i, none⟩ (.slice (some ⟨g, 0, none⟩) m cap)) B (.slice (some ⟨G, 0, none⟩) n c) (hs.set i (.slice (some ⟨g, 0, none⟩) m cap)) (rows.set i l) := by
  have hn : n = rows.length := by
    rcases h.out.2 with ⟨e1, _⟩ | ⟨_, _, _, e1, _⟩
    · cases e1
    · injection e1
  subst hm
  have nf : ∀ x : Value, Far (hs.getD i undef) x → (∀ k, x.ownBlock = some k → k < w.heap.size) → Far x (.slice (some ⟨g, 0, none⟩) l.length cap) := fun x hx hlt k hk e => by
    obtain rfl : g = k := by simpa [Value.ownBlock] using e
    rcases hat with e2 | e2
    · exact hx _ e2 hk
    · have := hlt _ hk; omega
  have hto := h.out
  rw [← hn] at hto
  exact OwnM.put2 h.len hn ((hto.alloc o).kept hg (h.top i hi).symm.ne) hi (fun r hr hne => ((h.inn r hr).alloc o).kept hg (h.far i r hi hr (Ne.symm hne)).ne)
    (fun r s hr hs' _ _ hne => h.far r s hr hs' hne) (fun r hr _ => h.top r hr) ho (fun r hr hne => nf _ (h.far i r hi hr (Ne.symm hne)) (fun k hk => ((h.inn r hr).lt k hk).2))
    (nf _ (h.top i hi).symm (fun k hk => (h.out.lt k hk).2))

def qpad (Q : List (List Int)) (r : Nat) : List (List Int) := if r = Q.length then Q ++ [[]] else Q
theorem qpad_new {Q : List (List Int)} {r : Nat} (h : r = Q.length) : qpad Q r = Q ++ [[]] := if_pos h
theorem qpad_old {Q : List (List Int)} {r : Nat} (h : ¬ r = Q.length) : qpad Q r = Q := if_neg h
theorem qpad_add {Q : List (List Int)} {r : Nat} (c : Int) (h : r ≤ Q.length) : r < (qpad Q r).length ∧ (qpad Q r).set r ((qpad Q r).getD r [] ++ [c]) = qadd Q r c := by
  unfold qpad qadd
  by_cases e : r = Q.length
  · rw [if_pos e, if_pos e]
    subst e
    refine ⟨by simp, ?_⟩
    rw [List.getD_eq_getElem?_getD, List.getElem?_append_right (Nat.le_refl _)]
    simp
  · rw [if_neg e, if_neg e]; exact ⟨by omega, rfl⟩
theorem qpad_len {Q : List (List Int)} {r n : Nat} (h : ∀ r, (Q.getD r []).length ≤ n) : ((qpad Q r).getD r []).length ≤ n := by
  unfold qpad
  by_cases e : r = Q.length
  · rw [if_pos e]
    subst e
    rw [List.getD_eq_getElem?_getD, List.getElem?_append_right (Nat.le_refl _)]
    simp
  · rw [if_neg e]; exact h r

end Go.Proofs.YtmlmdklheiafpaaDoor
