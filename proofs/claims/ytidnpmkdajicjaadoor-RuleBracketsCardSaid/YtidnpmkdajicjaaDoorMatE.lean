/-
  Slices of slices of ints: read; built by the call itself (printed by wip/mkA.py).
-/
import Derived.Test.YtidnpmkdajicjaaDoorShE
import Derived.Deep.Onto
import Derived.Deep.AppendLies
namespace Go.Proofs.YtidnpmkdajicjaaDoor
open Go.RowKit

/-- A slice value '.slice A rows.length cap' that reads as rows, all below block B. -/
def SR (w : World) (B : Nat) (A : Option Addr) (rows : List (List Int)) : Prop :=
  ∃ hs : List Value, hs.length = rows.length ∧ Sl w B A hs ∧ ∀ r, r < rows.length → ∃ Ar cr, hs[r]? = some (.slice Ar (rows.getD r []).length cr) ∧ Sl w B Ar (ints (rows.getD r [])) ∧ (rows.getD r []).length ≤ 9223372036854775807

section
variable {w w' : World} {B B' : Nat} {A : Option Addr} {rows : List (List Int)}
theorem SR.below (h : SR w B A rows) (hb : Below B w w') : SR w' B A rows := by
  obtain ⟨hs, h1, h2, h3⟩ := h
  exact ⟨hs, h1, h2.below hb, fun r hr => by obtain ⟨Ar, cr, a, b, c⟩ := h3 r hr; exact ⟨Ar, cr, a, b.below hb, c⟩⟩
theorem SR.more (h : SR w B A rows) (hB : B ≤ B') : SR w B' A rows := by
  obtain ⟨hs, h1, h2, h3⟩ := h
  exact ⟨hs, h1, h2.more hB, fun r hr => by obtain ⟨Ar, cr, a, b, c⟩ := h3 r hr; exact ⟨Ar, cr, a, b.more hB, c⟩⟩
theorem SR.now (h : SR w B A rows) (hb : Below B w w') (hB : B ≤ w.heap.size) : SR w' w'.heap.size A rows := (h.below hb).more (Nat.le_trans hB hb.size)
theorem SR.keep (h : SR w w.heap.size A rows) (hb : Below w.heap.size w w') : SR w' w'.heap.size A rows := (h.below hb).more hb.size
theorem SR.nil (w : World) (B : Nat) (A : Option Addr) : SR w B A [] := ⟨[], rfl, Sl.nil _ _ _, fun r hr => by simp at hr⟩
/-- Where it lies. -/
theorem SR.addr (h : SR w B A rows) (hp : 0 < rows.length) : ∃ b o, A = some ⟨b, o, none⟩ ∧ b < B := by
  obtain ⟨hs, h1, h2, _⟩ := h
  obtain ⟨b, o, e, hlt, _⟩ := h2 (by omega)
  exact ⟨b, o, e, hlt⟩
/-- The r-th row. -/
theorem SR.at_ {b o : Nat} (h : SR w B (some ⟨b, o, none⟩) rows) {r : Nat} (hr : r < rows.length) :
    ∃ Ar cr, w.cell? ⟨b, o + r, none⟩ = some (.slice Ar (rows.getD r []).length cr) ∧ Sl w B Ar (ints (rows.getD r [])) ∧ (rows.getD r []).length ≤ 9223372036854775807 := by
  obtain ⟨hs, h1, h2, h3⟩ := h
  obtain ⟨Ar, cr, a, b', c⟩ := h3 r hr
  obtain ⟨b1, o1, e1, _, hc⟩ := h2 (by omega)
  obtain ⟨rfl, rfl⟩ : b = b1 ∧ o = o1 := by simpa using e1
  exact ⟨Ar, cr, hc r _ a, b', c⟩
end

/-- Two values that own no block together. -/
def Far (v u : Value) : Prop := ∀ k, v.ownBlock = some k → u.ownBlock ≠ some k
theorem Far.symm {u v : Value} (h : Far u v) : Far v u := fun k h1 h2 => h k h2 h1
theorem Far.ne {u v : Value} (h : Far u v) : v.ownBlock = none ∨ v.ownBlock ≠ u.ownBlock := by
  cases e : v.ownBlock with
  | none => exact .inl rfl
  | some k => exact .inr (fun h2 => h k h2.symm e)

/-- A slice of slices of ints that the call owns, hs the rows' values. -/
structure OwnM (w : World) (B : Nat) (v : Value) (hs : List Value) (rows : List (List Int)) : Prop where
  len : hs.length = rows.length
  out : w.ownsRow B 22 1 v rows.length hs
  inn : ∀ r, r < rows.length → w.ownsRow B 3 1 (hs.getD r undef) (rows.getD r []).length (ints (rows.getD r []))
  far : ∀ r s, r < rows.length → s < rows.length → r ≠ s → Far (hs.getD r undef) (hs.getD s undef)
  top : ∀ r, r < rows.length → Far v (hs.getD r undef)

section
variable {w w' : World} {B : Nat} {v : Value} {hs : List Value} {rows : List (List Int)}
theorem OwnM.nil (w : World) (B : Nat) : OwnM w B (.slice none 0 0) [] [] :=
  ⟨rfl, World.ownsRow_nil _ _ _ _, fun r hr => by simp at hr, fun r s hr => by simp at hr, fun r hr => by simp at hr⟩
theorem OwnM.below (h : OwnM w B v hs rows) (hb : Below w.heap.size w w') : OwnM w' B v hs rows :=
  ⟨h.len, own_below h.out hb, fun r hr => own_below (h.inn r hr) hb, h.far, h.top⟩
theorem OwnM.alloc (h : OwnM w B v hs rows) (o : Obj) : OwnM (w.alloc o) B v hs rows :=
  ⟨h.len, h.out.alloc o, fun r hr => (h.inn r hr).alloc o, h.far, h.top⟩
theorem OwnM.drewN (h : OwnM w B v hs rows) (k : Nat) : OwnM (w.drewN k) B v hs rows := ⟨h.len, h.out, h.inn, h.far, h.top⟩
theorem OwnM.get (h : OwnM w B v hs rows) {r : Nat} (hr : r < rows.length) : hs[r]? = some (hs.getD r undef) := by
  have : r < hs.length := by rw [h.len]; exact hr
  rw [List.getD_eq_getElem?_getD]; simp [this]
/-- As a slice that reads. -/
theorem OwnM.sr (h : OwnM w B v hs rows) : ∃ A c, v = .slice A rows.length c ∧ SR w w.heap.size A rows ∧ rows.length ≤ c ∧ c ≤ 9223372036854775807 := by
  have key : ∀ A, Sl w w.heap.size A hs → SR w w.heap.size A rows := fun A hA => ⟨hs, h.len, hA, fun r hr => by
    obtain ⟨Ar, cr, e, _, hsl, e1, e2⟩ := own_sliceA (h.inn r hr)
    exact ⟨Ar, cr, by rw [h.get hr, e], hsl, by omega⟩⟩
  rcases h.out.2 with ⟨e1, e2⟩ | ⟨g, c, _, e1, _⟩
  · refine ⟨none, 0, by rw [e2]; exact e1, key none ?_, by omega, by omega⟩
    have hz : hs = [] := List.eq_nil_of_length_eq_zero (by rw [h.len]; exact e2)
    rw [hz]; exact Sl.nil _ _ _
  · have ho := h.out
    rw [e1] at ho
    exact ⟨_, c, e1, key _ (Sl.of_own ho), (own_cap ho).1, (own_cap ho).2⟩
/-- A row put behind. -/
theorem OwnM.push (h : OwnM w B v hs rows) {u : Value} {l : List Int} (hu : w.ownsRow B 3 1 u l.length (ints l)) (hf : ∀ r, r < rows.length → Far (hs.getD r undef) u) (hv : Far v u) {g cap n' : Nat} (hn : n' = rows.length + 1)
    (ho : w'.ownsRow B 22 1 (.slice (some ⟨g, 0, none⟩) n' cap) n' (hs ++ [u])) (hg : w.grownBy w' v.ownBlock) (hat : v.ownBlock = some g ∨ g = w.heap.size) :
    OwnM w' B (.slice (some ⟨g, 0, none⟩) n' cap) (hs ++ [u]) (rows ++ [l]) := by
  have hl : (rows ++ [l]).length = rows.length + 1 := by simp
  have low : ∀ r, r < rows.length → (hs ++ [u]).getD r undef = hs.getD r undef ∧ (rows ++ [l]).getD r [] = rows.getD r [] := fun r hr => by
    rw [List.getD_eq_getElem?_getD, List.getD_eq_getElem?_getD, List.getD_eq_getElem?_getD, List.getD_eq_getElem?_getD, List.getElem?_append_left (by rw [h.len]; exact hr), List.getElem?_append_left hr]
    exact ⟨rfl, rfl⟩
  have top : (hs ++ [u]).getD rows.length undef = u ∧ (rows ++ [l]).getD rows.length [] = l := by
    rw [List.getD_eq_getElem?_getD, List.getD_eq_getElem?_getD]
    have := h.len
    constructor
    · rw [← this]; simp
    · simp
  have nf : ∀ x : Value, Far v x → (∀ k, x.ownBlock = some k → k < w.heap.size) → Far (.slice (some ⟨g, 0, none⟩) n' cap) x := fun x hx hlt k hk e => by
    obtain rfl : g = k := by simpa [Value.ownBlock] using hk
    rcases hat with e2 | e2
    · exact hx _ e2 e
    · have := hlt _ e; omega
  refine ⟨by rw [hl, List.length_append, h.len]; rfl, by rw [hl, ← hn]; exact ho, fun r hr => ?_, fun r s hr hs' hne => ?_, fun r hr => ?_⟩
  · by_cases c : r < rows.length
    · rw [(low r c).1, (low r c).2]; exact (h.inn r c).kept hg (h.top r c).ne
    · obtain rfl : r = rows.length := by omega
      rw [top.1, top.2]; exact hu.kept hg hv.ne
  · by_cases c : r < rows.length
    · by_cases c2 : s < rows.length
      · rw [(low r c).1, (low s c2).1]; exact h.far r s c c2 hne
      · obtain rfl : s = rows.length := by omega
        rw [(low r c).1, top.1]; exact hf r c
    · obtain rfl : r = rows.length := by omega
      have c2 : s < rows.length := by omega
      rw [(low s c2).1, top.1]; exact (hf s c2).symm
  · by_cases c : r < rows.length
    · rw [(low r c).1]; exact nf _ (h.top r c) (fun k hk => ((h.inn r c).lt k hk).2)
    · obtain rfl : r = rows.length := by omega
      rw [top.1]; exact nf _ hv (fun k hk => (hu.lt k hk).2)
end

theorem Tryd.infoSlice : (Tryd.prog.info? 22).map (fun i => (i.zero, i.size, i.bytes)) = some (some (.slice none 0 0), 1, 24) := by kernel_rfl

/-- 'append(v, u)' of one slice of ints: u was laid in a block of its own. -/
theorem wpList_push {w : World} {base : Nat} {v : Value} {hs : List Value} {ops : Array Oper} {rest : List Oper} {o : Oper} {a : Act} {Q : Exit → Act → World → Prop} (hgd : o.guard = none) (s x : Operand)
    (ho : o.op = .call { callee := .builtin .append, args := #[s, x], argTypes := #[33, 33] }) (hs' : a.eval s = v) (u : Value) (hu : u.oneCell' = true) {n : Nat}
    (hown : w.ownsRow base 22 1 v n hs) (g0 : Nat) (hg0 : g0 = w.heap.size) (hx : a.eval x = .slice (some ⟨g0, 0, none⟩) 1 1) (hlen : n < 1000000) (hbase : base ≤ w.heap.size)
    (h : ∀ g cap w', w'.ownsRow base 22 1 (.slice (some ⟨g, 0, none⟩) (n + 1) cap) (n + 1) (hs ++ [u]) → (w.alloc (.cells #[u] 22)).grownBy w' v.ownBlock → (v.ownBlock = some g ∨ g = w.heap.size + 1) →
      wpList Tryd.prog ops Q rest (a.put o.dst (.slice (some ⟨g, 0, none⟩) (n + 1) cap)) w') :
    wpList Tryd.prog ops Q (o :: rest) a (w.alloc (.cells #[u] 22)) := by
  subst hg0
  obtain ⟨i0, hi, hz0, hz1, hz2⟩ := info_parts Tryd.infoSlice
  refine wpList_append_lies _ hgd s x 33 ho base 22 i0 (.slice none 0 0) 1 24 Tryd.underlying33 hi hz0 hz1 hz2 rfl (by decide) v n hs hs' (hown.alloc _) ⟨w.heap.size, 0, none⟩ 1 1 [u] hx rfl ?_ (by simpa using hu) (by decide)
    (by unfold maxLen; omega) (by omega) (by simp; omega) _ rfl (fun g cap w' h1 h2 h3 _ => ?_)
  · intro j y hy
    match j, hy with
    | 0, hy => simp at hy; subst hy; simp [Addr.add]
  · exact h g cap w' (by simpa using h1) h2 (by simpa using h3)

/-- '[][]int{u}'. -/
theorem OwnM.single {w : World} {B : Nat} {u : Value} {l : List Int} {k : Nat} (hk : k = l.length) (hu : w.ownsRow B 3 1 u k (ints l)) (hB : B ≤ w.heap.size) : OwnM (w.alloc (.cells #[u] 22)) B (.slice (some ⟨w.heap.size, 0, none⟩) 1 1) [u] [l] := by
  subst hk
  have h0 : ∀ r, r < [l].length → r = 0 := fun r hr => by simp at hr; exact hr
  refine ⟨rfl, World.ownsRow_lit (e := 22) (size := 1) w #[u] 1 hB (by decide) rfl, fun r hr => ?_, fun r s hr hs' hne => ?_, fun r hr => ?_⟩
  · obtain rfl := h0 r hr; exact hu.alloc _
  · have := h0 r hr; have := h0 s hs'; omega
  · obtain rfl := h0 r hr
    intro k hk e
    obtain rfl : w.heap.size = k := by simpa [Value.ownBlock] using hk
    have := (hu.lt _ e).2
    omega
/-- The value of the r-th row, where it has something. -/
theorem OwnM.row {w : World} {B g n c : Nat} {hs : List Value} {rows : List (List Int)} (h : OwnM w B (.slice (some ⟨g, 0, none⟩) n c) hs rows) {r : Nat} (hr : r < rows.length) (hp : 0 < (rows.getD r []).length) :
    ∃ gr cr, hs.getD r undef = .slice (some ⟨gr, 0, none⟩) (rows.getD r []).length cr ∧ w.cell? ⟨g, r, none⟩ = some (.slice (some ⟨gr, 0, none⟩) (rows.getD r []).length cr) ∧
      w.ownsRow B 3 1 (.slice (some ⟨gr, 0, none⟩) (rows.getD r []).length cr) (rows.getD r []).length (ints (rows.getD r [])) ∧ B ≤ gr ∧ gr < w.heap.size := by
  have hi := h.inn r hr
  obtain ⟨gr, cr, e, h1, h2⟩ := hi.form hp
  refine ⟨gr, cr, e, ?_, by rw [← e]; exact hi, h1, h2⟩
  have ho := h.out
  have hn : n = rows.length := by
    rcases ho.2 with ⟨e1, _⟩ | ⟨_, _, _, e1, _⟩
    · cases e1
    · injection e1
  subst hn
  rw [ho.cellAt r (by omega), h.get hr, e]
theorem OwnM.far_new {w : World} {B : Nat} {v : Value} {hs : List Value} {rows : List (List Int)} (h : OwnM w B v hs rows) {u : Value} (hu : ∀ k, u.ownBlock = some k → w.heap.size ≤ k) : (∀ r, r < rows.length → Far (hs.getD r undef) u) ∧ Far v u :=
  ⟨fun r hr k hk e => by have := ((h.inn r hr).lt k hk).2; have := hu k e; omega, fun k hk e => by have := (h.out.lt k hk).2; have := hu k e; omega⟩

/-- A cell of one row turned. -/
theorem OwnM.setIn {w : World} {B : Nat} {v : Value} {hs : List Value} {rows : List (List Int)} (h : OwnM w B v hs rows) {r g c : Nat} (hr : r < rows.length) (hg : hs.getD r undef = .slice (some ⟨g, 0, none⟩) (rows.getD r []).length c) (j : Nat) (y : Int) :
    OwnM (w.setCell ⟨g, j, none⟩ (.int .i64 y)) B v hs (rows.set r ((rows.getD r []).set j y)) := by
  have other : ∀ {base n : Nat} {e : TypeId} {u : Value} {cs : List Value}, w.ownsRow base e 1 u n cs → (∀ k, u.ownBlock = some k → k ≠ g) → (w.setCell ⟨g, j, none⟩ (.int .i64 y)).ownsRow base e 1 u n cs := by
    intro base n e u cs ho hne
    refine ⟨ho.1, ?_⟩
    rcases ho.2 with hn | ⟨g', cap, cur, e1, hg', hh, rest⟩
    · exact .inl hn
    · refine .inr ⟨g', cap, cur, e1, hg', ?_, rest⟩
      have : g' ≠ g := hne g' (by rw [e1]; rfl)
      rw [← hh]
      simp [World.setCell, Array.getElem?_modify, Ne.symm this]
  have hgb : ∀ u : Value, Far u (hs.getD r undef) → ∀ k, u.ownBlock = some k → k ≠ g := fun u hf k hk e => by
    subst e; exact hf k hk (by rw [hg]; rfl)
  have hL : (rows.set r ((rows.getD r []).set j y)).length = rows.length := by simp
  refine ⟨by rw [hL]; exact h.len, by rw [hL]; exact other h.out (hgb v (h.top r hr)), fun s hs' => ?_, fun s t hs' ht hne => h.far s t (by rw [hL] at hs'; exact hs') (by rw [hL] at ht; exact ht) hne, fun s hs' => h.top s (by rw [hL] at hs'; exact hs')⟩
  rw [hL] at hs'
  by_cases e : s = r
  · subst e
    have e1 : (rows.set s ((rows.getD s []).set j y)).getD s [] = (rows.getD s []).set j y := by
      rw [List.getD_eq_getElem?_getD, List.getElem?_set_self hs']; rfl
    rw [e1, List.length_set]
    have hi := h.inn s hs'
    rw [hg] at hi ⊢
    exact own_set hi j y
  · have e1 : (rows.set r ((rows.getD r []).set j y)).getD s [] = rows.getD s [] := by
      rw [List.getD_eq_getElem?_getD, List.getElem?_set_ne (fun e2 => e e2.symm), ← List.getD_eq_getElem?_getD]
    rw [e1]
    exact other (h.inn s hs') (hgb _ (h.far s r hs' hr e))

end Go.Proofs.YtidnpmkdajicjaaDoor
