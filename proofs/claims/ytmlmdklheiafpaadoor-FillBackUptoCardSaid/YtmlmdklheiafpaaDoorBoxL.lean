/-
  Rows of things of k cells, sorted in place.
-/
import Derived.Test.YtmlmdklheiafpaaDoorCmpA
import Derived.Test.YtmlmdklheiafpaaDoorStdM
import Derived.Shelf.SlSortCmp.NoneTotal
import Derived.Ground.SlsfProg
import Derived.Lib.OwnBridge
import Derived.Lib.AppendIntMem
namespace Go.Proofs.YtmlmdklheiafpaaDoor
open Go.RowKit Go.Proofs
open Go.Shelf Go.Lib Go.Sort

section
variable {α : Type} {enc : α → List Value} {k : Nat}
def cellsK (enc : α → List Value) (m : List α) : List Value := m.flatMap enc
theorem cellsK_len (hk : ∀ x, (enc x).length = k) : ∀ m : List α, (cellsK enc m).length = m.length * k
  | [] => by simp [cellsK]
  | x :: m => by
    have ih := cellsK_len hk m
    simp only [cellsK, List.flatMap_cons, List.length_append, List.length_cons] at ih ⊢
    rw [hk, ih, Nat.add_mul]; omega
variable [Inhabited α]
theorem cellsK_get (hk : ∀ x, (enc x).length = k) (h0 : 0 < k) : ∀ {m : List α} {t : Nat}, t < m.length * k → (cellsK enc m)[t]? = (enc (m[t / k]!))[t % k]?
  | [], t, h => by simp at h
  | x :: m, t, h => by
    have e : cellsK enc (x :: m) = enc x ++ cellsK enc m := by simp [cellsK]
    rw [e]
    rcases Nat.lt_or_ge t k with c | c
    · rw [List.getElem?_append_left (by rw [hk]; exact c), Nat.div_eq_of_lt c, Nat.mod_eq_of_lt c]; rfl
    · obtain ⟨u, rfl⟩ : ∃ u, t = u + k := ⟨t - k, by omega⟩
      have hu : u < m.length * k := by
        rw [List.length_cons, Nat.add_mul, Nat.one_mul] at h; omega
      rw [List.getElem?_append_right (by rw [hk]; omega), hk, Nat.add_sub_cancel, Nat.add_div_right _ h0, Nat.add_mod_right, cellsK_get hk h0 hu]
      rfl
theorem flat_cellsK (hk : ∀ x, (enc x).length = k) (h0 : 0 < k) (m : List α) : flatK enc k m.toArray = (cellsK enc m).toArray := by
  have hl := cellsK_len hk m
  refine ext_get! (by simp [hl]) fun t ht => ?_
  have ht' : t < m.length * k := by simpa using ht
  rw [get_flatK _ _ _ _ (by simpa using ht')]
  have hg := cellsK_get hk h0 ht'
  have hd : t / k < m.length := (Nat.div_lt_iff_lt_mul h0).2 ht'
  have e0 : m.toArray[t / k]! = m[t / k]! := by simp
  rw [e0, getElem!_pos (cellsK enc m).toArray t (by simp [hl]; exact ht')]
  have hm : t % k < (enc (m[t / k]!)).length := by rw [hk]; exact Nat.mod_lt _ h0
  rw [List.getElem?_eq_getElem (by rw [hl]; exact ht'), List.getElem?_eq_getElem hm] at hg
  rw [getElem!_pos (enc (m[t / k]!)) (t % k) hm]
  simp only [List.getElem_toArray]
  exact (Option.some.inj hg).symm
theorem holdsKm {w : World} {base g cap n : Nat} {e : TypeId} {m : List α} (hk : ∀ x, (enc x).length = k) (h0 : 0 < k) (h : w.ownsRow base e k (.slice (some ⟨g, 0, none⟩) n cap) n (cellsK enc m)) : HoldsK enc k w g 0 m.toArray := by
  unfold HoldsK
  rw [flat_cellsK hk h0]
  intro j hj
  have hj' : j < (cellsK enc m).length := by simpa using hj
  refine ⟨?_, ?_⟩
  · rw [Nat.zero_add, h.cellAt j (by rw [← h.1]; exact hj'), List.getElem?_eq_getElem hj', getElem!_pos (cellsK enc m).toArray j hj]
    rfl
  · rw [Nat.zero_add]; exact h.frozenAt j
theorem ownKm {w : World} {base g cap n q : Nat} {e : TypeId} {m m' : List α} (hk : ∀ x, (enc x).length = k) (h0 : 0 < k) (h : w.ownsRow base e k (.slice (some ⟨g, 0, none⟩) n cap) n (cellsK enc m)) (hm : m'.length = m.length) :
    (putRowK enc k (Sort.ahead w q) g 0 m'.toArray).ownsRow base e k (.slice (some ⟨g, 0, none⟩) n cap) n (cellsK enc m') := by
  have hl := h.1
  have hl2 := cellsK_len hk m'
  have hl1 := cellsK_len hk m
  rw [hm, ← hl1, hl] at hl2
  unfold putRowK
  rw [flat_cellsK hk h0]
  rcases h.2 with ⟨e0, _⟩ | ⟨g', cap', cur, e0, hb, hg, hn, hmx, hs, ht⟩
  · cases e0
  · injection e0 with e1 _ e3
    injection e1 with e1
    injection e1 with e1
    subst e1; subst e3
    have hle : n * k ≤ cap * k := Nat.mul_le_mul_right _ hn
    refine ⟨hl2, .inr ⟨g, cap, putCells id 0 (cellsK enc m').toArray cur, rfl, hb, ?_, hn, hmx, by simpa [putCells] using hs, ?_⟩⟩
    · simp [putRow, mapBlock, Sort.ahead, Array.getElem?_modify, hg, onCells]
    · apply List.ext_getElem?
      intro j
      rw [List.getElem?_take, Array.getElem?_toList]
      by_cases hj : j < n * k
      · have hjc : j < cur.size := by omega
        rw [if_pos hj]
        simp only [putCells, Array.getElem?_mapIdx, Array.getElem?_eq_getElem hjc, Option.map_some]
        rw [if_pos (by simp; omega), List.getElem?_eq_getElem (by omega)]
        simp [getElem!_pos, show j < (cellsK enc m').length by omega]
      · rw [if_neg hj, List.getElem?_eq_none (by omega)]
end
theorem own_grow {w : World} {base size n : Nat} {e : TypeId} {v : Value} {cs : List Value} (h : w.ownsRow base e size v n cs) (os : Array Obj) : (grow w os).ownsRow base e size v n cs := by
  refine ⟨h.1, ?_⟩
  rcases h.2 with hn | ⟨g, cap, cur, rfl, hg, hh, rest⟩
  · exact .inl hn
  · refine .inr ⟨g, cap, cur, rfl, hg, ?_, rest⟩
    rw [heap_grow_old _ _ (Array.getElem?_eq_some_iff.1 hh).1]; exact hh
theorem below_growK {w : World} {B g q : Nat} {F : Array Value} {os : Array Obj} (hg : B ≤ g) (hB : B ≤ w.heap.size) : Below B w (grow (putRow id (Sort.ahead w q) g 0 F) os) := by
  have h1 : Below B w (putRow id (Sort.ahead w q) g 0 F) := below_putRow (Below.refl _ _) hg
  exact h1.trans (below_grow B _ (by have := h1.size; omega) 0 os)
end Go.Proofs.YtmlmdklheiafpaaDoor
