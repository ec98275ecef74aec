/-
  Rows whose lengths are within their capacities.
-/
import Derived.Test.YtmlmdklheiafpaaMatA
namespace Go.Proofs.Ytmlmdklheiafpaa
open Go.RowKit

def SCap (w : World) (A : Option Addr) (n : Nat) : Prop := ∀ b o, A = some ⟨b, o, none⟩ → ∀ r, r < n → ∀ A' m c, w.cell? ⟨b, o + r, none⟩ = some (.slice A' m c) → m ≤ c
theorem SCap.below {w w' : World} {B : Nat} {A : Option Addr} {rows : List (List Int)} (h : SCap w A rows.length) (hs : SR w B A rows) (hb : Below B w w') : SCap w' A rows.length := fun b o e r hr A' m c hc => by
  subst e
  obtain ⟨b', o', e', hlt⟩ := hs.addr (by omega)
  obtain ⟨rfl, rfl⟩ : b = b' ∧ o = o' := by simpa using e'
  rw [hb.cell (p := ⟨b, o + r, none⟩) hlt] at hc
  exact h b o rfl r hr A' m c hc
end Go.Proofs.Ytmlmdklheiafpaa
