/-
  slices.Delete of one int out of a slice that the caller owns.
-/
import Derived.Test.YtmlmdklheiafpaaLib
import Derived.Ground.Names2Prog
import Derived.Shelf.Lay
import Derived.Shelf.Slices.Delete
import Derived.Lib.OwnBridge
namespace Go.Proofs.Ytmlmdklheiafpaa
open Go.RowKit Go.Proofs
open Go.Shelf Go.Lib Go.Sort

shelf_lay Lays2.n23 Nm2 23 at Try as Try.lays23

theorem delete_one {base g n cap : Nat} {zs : List Int} {i : Nat} (w : World) (h : w.ownsRow base 3 1 (.slice (some ⟨g, 0, none⟩) n cap) n (ints zs)) (hi : i < n) :
    Calls Try.prog 58 #[.slice (some ⟨g, 0, none⟩) n cap, .int .i64 i, .int .i64 ((i : Int) + 1)] w fun e w' => e = .returned (.slice (some ⟨g, 0, none⟩) (n - 1) cap) ∧
      w'.ownsRow base 3 1 (.slice (some ⟨g, 0, none⟩) (n - 1) cap) (n - 1) (ints (zs.take i ++ zs.drop (i + 1))) ∧ (∀ B w0, B ≤ base → Below B w0 w → Below B w0 w') ∧ (∀ k, k ≠ g → w'.heap[k]? = w.heap[k]?) ∧ w'.heap.size = w.heap.size := by
  have hc := own_cap h
  obtain ⟨g', cap', e0, hb, hlt, hn, hm, hl, hH⟩ := Lib.holds_of_ownsRow h (by simp)
  obtain ⟨rfl, rfl⟩ : g = g' ∧ cap = cap' := by simpa using e0
  subst hl
  have := Any.slices_Delete_int Try.lays23 g 0 cap i (i + 1) zs w hH (by omega) hc.2 (by omega) (by omega)
  refine this.mono ?_
  rintro e w' ⟨rfl, q, rfl⟩
  have hy : (zs.take i ++ zs.drop (i + 1) ++ List.replicate (i + 1 - i) 0).length = zs.length := by simp; omega
  have ho := Lib.ownsRow_putRow (q := q) (k := zs.length - 1) h hy (by omega)
  rw [List.take_left' (by simp; omega)] at ho
  exact ⟨by rw [show i + 1 - i = 1 by omega], ho, fun B w0 hB hw => Lib.below_putRow hw (by omega),
    fun k hk => by simp [putRow, mapBlock, Sort.ahead, Array.getElem?_modify, show g ≠ k from fun e => hk e.symm], by simp [putRow, mapBlock, Sort.ahead]⟩

/-- A row that another row's turning leaves. -/
theorem own_apart {w w' : World} {base n : Nat} {e : TypeId} {v : Value} {cs : List Value} (h : w.ownsRow base e 1 v n cs) (hk : ∀ k, base ≤ k → w'.heap[k]? = w.heap[k]?) : w'.ownsRow base e 1 v n cs := by
  refine ⟨h.1, ?_⟩
  rcases h.2 with hn | ⟨g, cap, cur, e1, hg, hh, rest⟩
  · exact .inl hn
  · exact .inr ⟨g, cap, cur, e1, hg, (hk g hg).trans hh, rest⟩

end Go.Proofs.Ytmlmdklheiafpaa
