/-
  slices.Clone of ints.
-/
import Derived.Test.YtidnpmkdajicjaaDoorLib
import Derived.Test.YtidnpmkdajicjaaDoorBase
namespace Go.Proofs.YtidnpmkdajicjaaDoor
open Go.RowKit

set_option maxHeartbeats 400000 in
theorem clone_any (A : Option Addr) (cap : Nat) (xs : List Int) (w : World) (hl : xs.length < 1000000) (h : Sl w w.heap.size A (ints xs)) :
    Calls Tryd.prog 15 #[.slice A xs.length cap] w fun e w' => ∃ v, e = .returned v ∧ w'.ownsRow w.heap.size 3 1 v xs.length (ints xs) ∧ Below w.heap.size w w' := by
  rcases A with _ | ad
  · have hx : xs = [] := by
      by_cases hp : 0 < xs.length
      · obtain ⟨b, o, e, _⟩ := h.at_ hp
        cases e
      · exact List.eq_nil_of_length_eq_zero (by omega)
    subst hx
    have he := fun w => Lib.run_eql_slice_nil (P := Tryd.prog) w 22 3 none 0 cap 0 0 Tryd.underlying22
    go_enter Tryd.func15, Tryd.ntmps15
    go_wp2
    go_ret
    exact ⟨_, rfl, World.ownsRow_nil _ _ _ _, Below.refl _ _⟩
  · have he := fun w => Lib.run_eql_slice_nil (P := Tryd.prog) w 22 3 (some ad) xs.length cap 0 0 Tryd.underlying22
    go_enter Tryd.func15, Tryd.ntmps15
    go_wp2_with (at_builtin; refine wpList_app (l := []) rfl (.tmp 5) (.tmp 6) rfl rfl (World.ownsRow_lit w #[] 0 (Nat.le_refl _) (by decide) rfl) cap rfl (h.below ((Below.refl _ _).alloc (Nat.le_refl _) _)) (by simp; omega) (by simp) (fun v3 w3 hv3 hb3 => ?_))
    go_ret
    exact ⟨_, rfl, by simpa using hv3, ((Below.refl _ _).alloc (Nat.le_refl _) _).trans hb3⟩

end Go.Proofs.YtidnpmkdajicjaaDoor
