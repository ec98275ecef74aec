/-
  cmp.Compare of ints, cmp.Or of two.
-/
import Derived.Test.YtmlmdklheiafpaaDoorLib
import Derived.Deep.RegionHeld3
import Derived.BigQuiet
import Derived.BigRegion
import Derived.Deep.RegionWith
import Derived.Shelf.SlicesG.Cmp
import Derived.Shelf.Lay
import Derived.Ground.SlgcProg
namespace Go.Proofs
open Go.Shelf
shelf_lay_g SlLaysC2.n5 Slgc 5 at Tryd 17 as Tryd.cmpI
end Go.Proofs
namespace Go.Proofs.YtmlmdklheiafpaaDoor
open Go.RowKit Go.Proofs
open Go.Shelf

theorem cmp_any (x y : Int) (w : World) : Calls Tryd.prog 17 #[.int .i64 x, .int .i64 y] w fun e w' => e = .returned (.int .i64 (Lib.compareInt x y)) ∧ w = w' := by
  have h := AnyG.cmp_Compare_int Tryd.cmpI x y w
  change Calls Tryd.prog 17 _ _ _ at h
  exact h.mono (fun e w' hh => ⟨hh.1, hh.2.symm⟩)

def orP (x y : Int) : Int := if x ≠ 0 then x else y
set_option maxHeartbeats 1000000 in
/-- cmp.Or of two. -/
theorem or_any (g cap : Nat) (x y : Int) (w : World) (h0 : w.cell? ⟨g, 0, none⟩ = some (.int .i64 x)) (h1 : w.cell? ⟨g, 1, none⟩ = some (.int .i64 y)) :
    Calls Tryd.prog 16 #[.slice (some ⟨g, 0, none⟩) 2 cap] w fun e w' => e = .returned (.int .i64 (orP x y)) ∧ w = w' := by
  go_enter Tryd.func16, Tryd.ntmps16
  go_wp2
  go_loopw [8] (fun iv wr => ∃ i : Nat, i ≤ 2 ∧ iv = .int .i64 i ∧ (1 ≤ i → x = 0) ∧ (2 ≤ i → y = 0) ∧ w = wr) (fun iv _ => 2 - (intOf iv).toNat)
  case atStart => exact ⟨0, by omega, rfl, fun h => by omega, fun h => by omega, rfl⟩
  case round =>
    obtain ⟨i, hi, rfl, k1, k2, rfl⟩ := hrel
    by_cases hi2 : i < 2
    · have di : decide (i < 2) = true := decide_eq_true hi2
      have di2 : decide ((i : Int) < 2) = true := decide_eq_true (by omega)
      obtain ⟨z, hz, z0, z1⟩ : ∃ z : Int, w.cell? ⟨g, i, none⟩ = some (.int .i64 z) ∧ (i = 0 → z = x) ∧ (i = 1 → z = y) := by
        rcases Nat.lt_or_ge i 1 with c | c
        · obtain rfl : i = 0 := by omega
          exact ⟨x, h0, fun _ => rfl, fun h => by omega⟩
        · obtain rfl : i = 1 := by omega
          exact ⟨y, h1, fun h => by omega, fun _ => rfl⟩
      have hfin : Hid (z ≠ 0 → orP x y = z) := fun hne => by
        unfold orP
        rcases Nat.lt_or_ge i 1 with c | c
        · have := z0 (by omega); rw [← this, if_pos hne]
        · have e1 := z1 (by omega)
          have e2 := k1 c
          rw [if_neg (by omega), e1]
      have hnx : Hid (z = 0 → (1 ≤ i + 1 → x = 0) ∧ (2 ≤ i + 1 → y = 0)) := fun hz0 => by
        refine ⟨fun _ => ?_, fun h => ?_⟩
        · rcases Nat.lt_or_ge i 1 with c | c
          · rw [← z0 (by omega)]; exact hz0
          · exact k1 c
        · rw [← z1 (by omega)]; exact hz0
      clear z0 z1 k1 k2
      by_cases hz0 : z = 0
      · have dz : (z != 0) = false := by simpa using hz0
        have hn := Lib.hid (hnx.out hz0)
        clear hz0 hnx hfin
        go_wp2
        go_roundw
        case rel => exact ⟨i + 1, by omega, by go_num, hn.out.1, hn.out.2, by first | rfl | trivial⟩
        case measure => simp [intOf]; omega
      · have dz : (z != 0) = true := by simpa using hz0
        have hf := Lib.hid (hfin.out hz0)
        clear hz0 hnx hfin
        go_wp2
        go_ret
        exact ⟨by rw [hf.out]; rfl, by first | rfl | trivial⟩
    · have di : decide (i < 2) = false := decide_eq_false hi2
      have di2 : decide ((i : Int) < 2) = false := decide_eq_false (by omega)
      have hf : Hid (orP x y = 0) := by
        have e1 := k1 (by omega); have e2 := k2 (by omega)
        show (if x ≠ 0 then x else y) = _; rw [if_neg (by omega), e2]
      clear k1 k2
      go_wp2
      go_ret
      exact ⟨by rw [hf.out]; rfl, by first | rfl | trivial⟩

end Go.Proofs.YtmlmdklheiafpaaDoor
