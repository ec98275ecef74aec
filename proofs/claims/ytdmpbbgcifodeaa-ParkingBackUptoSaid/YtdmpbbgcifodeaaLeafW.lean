/-
  parking.Tree's closure: the least leaf, taken.
-/
import Derived.Test.YtdmpbbgcifodeaaLeafM
namespace Go.Proofs.Ytdmpbbgcifodeaa
open Go.RowKit

set_option maxHeartbeats 1000000 in
theorem leaf_any {w0 : World} {N L gR n : Nat} {r : List Int} (v : Nat) (w : World) (h : RSt w0 w N L gR n r) (hv1 : 1 ≤ v) (hv : v < n) (h0 : r.getD v 0 = 0) (hmin : ∀ u : Nat, 1 ≤ u → u < v → r.getD u 0 ≠ 0) (hn : n ≤ 1000) :
    Calls Try.prog 93 #[.pointer (some ⟨L, 0, none⟩)] w fun e w' => e = .returned (.int .i64 v) ∧ w.setCell ⟨gR, v, none⟩ (.int .i64 (-1)) = w' := by
  have hl : r.length = n := by have := h.o.1; rw [ints_length] at this; omega
  have HR := Lib.hid h
  have HM := Lib.hid hmin
  have c0 := h.c
  clear h hmin
  go_enter Try.func93, Try.ntmps93
  go_wp2
  go_loopw [2] (fun uv wz => ∃ u : Nat, 1 ≤ u ∧ u ≤ v ∧ uv = .int .i64 u ∧ w = wz) (fun uv _ => v - (intOf uv).toNat)
  case atStart => exact ⟨1, Nat.le_refl _, hv1, rfl, rfl⟩
  case round =>
    obtain ⟨u, u1, u2, rfl, rfl⟩ := hrel
    have hul : u < r.length := by omega
    have hcu := own_get HR.out.o (List.getElem?_eq_getElem hul)
    rw [← getD_get (d := 0) hul] at hcu
    by_cases e : u = v
    · rw [e, h0] at hcu
      have de : ((0 : Int) != 0) = false := rfl
      have hfz := HR.out.o.frozenAt v
      subst e
      go_wp2
      go_ret
      exact ⟨rfl, by first | rfl | trivial⟩
    · have hne := HM.out u u1 (by omega)
      obtain ⟨z, hz⟩ : ∃ z, z = r.getD u 0 := ⟨_, rfl⟩
      rw [← hz] at hcu hne
      have de : (z != 0) = true := by simpa using hne
      clear hz hne
      go_wp2
      go_roundw
      case rel => exact ⟨u + 1, by omega, by omega, by go_num, by first | rfl | trivial⟩
      case measure => simp [intOf]; omega
end Go.Proofs.Ytdmpbbgcifodeaa
