/-
  Many regions that a call owns, all apart.
-/
import Derived.Test.YtidnpmkdajicjaaDoorMatE
import Derived.Deep.RegionHeld3
namespace Go.Proofs.YtidnpmkdajicjaaDoor
open Go.RowKit

/-- A region: what it holds, where. -/
structure Reg where
  e : TypeId
  z : Nat
  v : Value
  n : Nat
  cs : List Value
def Reg.ok (w : World) (B : Nat) (r : Reg) : Prop := w.ownsRow B r.e r.z r.v r.n r.cs
def Reg.none (e : TypeId) : Reg := ⟨e, 1, .slice Option.none 0 0, 0, []⟩
/-- All regions are owned, and apart. -/
structure AllR (w : World) (B : Nat) (R : Nat → Reg) : Prop where
  own : ∀ x, (R x).ok w B
  far : ∀ x y, x ≠ y → Far (R x).v (R y).v

theorem own_eq {w w' : World} {base n k : Nat} {e : TypeId} {v : Value} {cs : List Value} (h : w.ownsRow base e k v n cs) (hk : ∀ b, v.ownBlock = some b → w'.heap[b]? = w.heap[b]?) : w'.ownsRow base e k v n cs := by
  refine ⟨h.1, ?_⟩
  rcases h.2 with hn | ⟨g, cap, cur, e1, hg, hh, rest⟩
  · exact .inl hn
  · exact .inr ⟨g, cap, cur, e1, hg, (hk g (by rw [e1]; rfl)).trans hh, rest⟩

section
variable {w w' : World} {B : Nat} {R R' : Nat → Reg}
theorem AllR.keep (h : AllR w B R) (hk : ∀ x b, (R x).v.ownBlock = some b → w'.heap[b]? = w.heap[b]?) : AllR w' B R :=
  ⟨fun x => own_eq (h.own x) (hk x), h.far⟩
theorem AllR.lt (h : AllR w B R) {x b : Nat} (hb : (R x).v.ownBlock = some b) : B ≤ b ∧ b < w.heap.size := (h.own x).lt b hb
theorem AllR.below (h : AllR w B R) (hb : Below w.heap.size w w') : AllR w' B R :=
  h.keep fun _ b e => hb.block b (h.lt e).2
theorem AllR.drewN (h : AllR w B R) (k : Nat) : AllR (w.drewN k) B R := ⟨h.own, h.far⟩
theorem AllR.drew (h : AllR w B R) : AllR w.drew B R := ⟨h.own, h.far⟩
theorem AllR.alloc (h : AllR w B R) (o : Obj) : AllR (w.alloc o) B R := h.below ((Below.refl _ _).alloc (Nat.le_refl _) o)
theorem AllR.base (h : AllR w B R) {B' : Nat} (hB : B' ≤ B) : AllR w B' R := ⟨fun x => (h.own x).mono hB, h.far⟩
/-- One region turned. -/
theorem AllR.upd (h : AllR w B R) {x : Nat} (ho : (R' x).ok w' B) (he : ∀ y, y ≠ x → R' y = R y) (hk : ∀ b, b < w.heap.size → (R x).v.ownBlock ≠ some b → w'.heap[b]? = w.heap[b]?)
    (hat : ∀ b, (R' x).v.ownBlock = some b → (R x).v.ownBlock = some b ∨ w.heap.size ≤ b) : AllR w' B R' := by
  have hfar : ∀ y, y ≠ x → Far (R' x).v (R y).v := fun y hy b h1 h2 => by
    rcases hat b h1 with e | e
    · exact h.far x y (Ne.symm hy) b e h2
    · have := (h.lt h2).2; omega
  refine ⟨fun y => ?_, fun y z hyz => ?_⟩
  · by_cases e : y = x
    · subst e; exact ho
    · rw [he y e]
      exact own_eq (h.own y) fun b hb => hk b (h.lt hb).2 fun hx => h.far y x e b hb hx
  · by_cases e : y = x
    · subst e
      rw [he z (Ne.symm hyz)]; exact hfar z (Ne.symm hyz)
    · by_cases e2 : z = x
      · subst e2
        rw [he y e]; exact (hfar y e).symm
      · rw [he y e, he z e2]; exact h.far y z hyz
/-- A store into one region. -/
theorem AllR.set (h : AllR w B R) {x g c : Nat} (hv : (R x).v = .slice (some ⟨g, 0, none⟩) (R x).n c) (j : Nat) (u : Value) (hx : R' x = ⟨(R x).e, (R x).z, (R x).v, (R x).n, (R x).cs.set j u⟩) (he : ∀ y, y ≠ x → R' y = R y) : AllR (w.setCell ⟨g, j, none⟩ u) B R' := by
  have ho := h.own x
  unfold Reg.ok at ho
  refine h.upd (x := x) ?_ he (fun b hb hne => ?_) (fun b hb => .inl ?_)
  · rw [hx]
    unfold Reg.ok
    simp only
    rw [hv] at ho ⊢
    exact (ho.stored j u).1
  · have : g ≠ b := fun e => hne (by rw [hv, ← e]; rfl)
    simp [World.setCell, Array.getElem?_modify, this]
  · rw [hx] at hb; exact hb
theorem AllR.cell (h : AllR w B R) {x g c : Nat} (hv : (R x).v = .slice (some ⟨g, 0, none⟩) (R x).n c) {j : Nat} {u : Value} (hj : j < (R x).n * (R x).z) (hu : (R x).cs[j]? = some u) : w.cell? ⟨g, j, none⟩ = some u := by
  have ho := h.own x
  unfold Reg.ok at ho
  rw [hv] at ho
  rw [ho.cellAt j hj]; exact hu
theorem AllR.fz (h : AllR w B R) {x g c : Nat} (hv : (R x).v = .slice (some ⟨g, 0, none⟩) (R x).n c) (j : Nat) : w.frozen? ⟨g, j, none⟩ = false := by
  have ho := h.own x
  unfold Reg.ok at ho
  rw [hv] at ho
  exact ho.frozenAt j
end

/-- A function changed at one place. -/
def at1 {α : Type} (f : Nat → α) (i : Nat) (y : α) : Nat → α := fun x => if x = i then y else f x
theorem at1_self {α : Type} (f : Nat → α) (i : Nat) (y : α) : at1 f i y i = y := if_pos rfl
theorem at1_ne {α : Type} (f : Nat → α) {i x : Nat} (y : α) (h : x ≠ i) : at1 f i y x = f x := if_neg h
theorem at1_map {α : Type} (f : Nat → α) (n i : Nat) (y : α) : (List.range n).map (at1 f i y) = ((List.range n).map f).set i y := by
  apply List.ext_getElem (by simp)
  intro a h1 h2
  rw [List.getElem_set]
  simp only [List.getElem_map, List.getElem_range]
  by_cases e : i = a
  · subst e; rw [if_pos rfl, at1_self]
  · rw [if_neg e, at1_ne _ _ (fun h => e h.symm)]
end Go.Proofs.YtidnpmkdajicjaaDoor
