/-
  parking.sorted: the comparison of two pairs.
-/
import Derived.Test.YtdmpbbgcifodeaaTreeW
import Derived.Shelf.SlicesG.Cmp
import Derived.Shelf.Lay
import Derived.Ground.SlgcProg
namespace Go.Proofs
open Go.Shelf
shelf_lay_g SlLaysC2.n5 Slgc 5 at Try 127 as Try.cmpI
end Go.Proofs
namespace Go.Proofs.Ytdmpbbgcifodeaa
open Go.RowKit Go.Proofs
open Go.Shelf

theorem cmp_any (x y : Int) (w : World) : Calls Try.prog 127 #[.int .i64 x, .int .i64 y] w fun e w' => e = .returned (.int .i64 (Lib.compareInt x y)) ∧ w = w' := by
  have h := AnyG.cmp_Compare_int Try.cmpI x y w
  change Calls Try.prog 127 _ _ _ at h
  exact h.mono (fun e w' hh => ⟨hh.1, hh.2.symm⟩)

def orP (x y : Int) : Int := if x ≠ 0 then x else y
set_option maxHeartbeats 1000000 in
/-- cmp.Or of two. -/
theorem or_any (g cap : Nat) (x y : Int) (w : World) (h0 : w.cell? ⟨g, 0, none⟩ = some (.int .i64 x)) (h1 : w.cell? ⟨g, 1, none⟩ = some (.int .i64 y)) :
    Calls Try.prog 130 #[.slice (some ⟨g, 0, none⟩) 2 cap] w fun e w' => e = .returned (.int .i64 (orP x y)) ∧ w = w' := by
  go_enter Try.func130, Try.ntmps130
  go_wp2
  go_loopw [8] (fun iv wr => ∃ i : Nat, i ≤ 2 ∧ iv = .int .i64 i ∧ (1 ≤ i → x = 0) ∧ (2 ≤ i → y = 0) ∧ w = wr) (fun iv _ => 2 - (intOf iv).toNat)
  case atStart => exact ⟨0, by omega, rfl, fun h => by omega, fun h => by omega, rfl⟩
  case round =>
    obtain ⟨i, hi, rfl, k1, k2, rfl⟩ := hrel
    by_cases hi2 : i < 2
    · have di : decide (i < 2) = true := decide_eq_true hi2
      have di2 : decide ((i : Int) < 2) = true := decide_eq_true (by omega)
      obtain ⟨z, hz, z0, z1⟩ : ∃ z : Int, w.cell? ⟨g, i, none⟩ = some (.int .i64 z) ∧ (i = 0 → z = x) ∧ (i = 1 → z = y) := by
        rcases Nat.lt_or_ge i 1 with c | c
        · obtain rfl : i = 0 := by omega
          exact ⟨x, h0, fun _ => rfl, fun h => by omega⟩
        · obtain rfl : i = 1 := by omega
          exact ⟨y, h1, fun h => by omega, fun _ => rfl⟩
      have hfin : Hid (z ≠ 0 → orP x y = z) := fun hne => by
        unfold orP
        rcases Nat.lt_or_ge i 1 with c | c
        · have := z0 (by omega); rw [← this, if_pos hne]
        · have e1 := z1 (by omega)
          have e2 := k1 c
          rw [if_neg (by omega), e1]
      have hnx : Hid (z = 0 → (1 ≤ i + 1 → x = 0) ∧ (2 ≤ i + 1 → y = 0)) := fun hz0 => by
        refine ⟨fun _ => ?_, fun h => ?_⟩
        · rcases Nat.lt_or_ge i 1 with c | c
          · rw [← z0 (by omega)]; exact hz0
          · exact k1 c
        · rw [← z1 (by omega)]; exact hz0
      clear z0 z1 k1 k2
      by_cases hz0 : z = 0
      · have dz : (z != 0) = false := by simpa using hz0
        have hn := Lib.hid (hnx.out hz0)
        clear hz0 hnx hfin
        go_wp2
        go_roundw
        case rel => exact ⟨i + 1, by omega, by go_num, hn.out.1, hn.out.2, by first | rfl | trivial⟩
        case measure => simp [intOf]; omega
      · have dz : (z != 0) = true := by simpa using hz0
        have hf := Lib.hid (hfin.out hz0)
        clear hz0 hnx hfin
        go_wp2
        go_ret
        exact ⟨by rw [hf.out]; rfl, by first | rfl | trivial⟩
    · have di : decide (i < 2) = false := decide_eq_false hi2
      have di2 : decide ((i : Int) < 2) = false := decide_eq_false (by omega)
      have hf : Hid (orP x y = 0) := by
        have e1 := k1 (by omega); have e2 := k2 (by omega)
        show (if x ≠ 0 then x else y) = _; rw [if_neg (by omega), e2]
      clear k1 k2
      go_wp2
      go_ret
      exact ⟨by rw [hf.out]; rfl, by first | rfl | trivial⟩

/-- The comparison of pairs. -/
def cfP (x y : Int × Int) : Int := orP (Lib.compareInt x.1 y.1) (Lib.compareInt x.2 y.2)
set_option maxRecDepth 100000 in
set_option maxHeartbeats 2000000 in
theorem scmp_any (x y : Int × Int) (w : World) : Calls Try.prog 129 #[.agg #[.int .i64 x.1, .int .i64 x.2], .agg #[.int .i64 y.1, .int .i64 y.2]] w fun e w' => e = .returned (.int .i64 (cfP x y)) ∧ ∃ o1 o2 o3, w' = (((w.alloc o1).alloc o2).drewN 1).alloc o3 := by
  obtain ⟨x1, x2⟩ := x
  obtain ⟨y1, y2⟩ := y
  have hc : Hid (cfP (x1, x2) (y1, y2) = orP (Lib.compareInt x1 y1) (Lib.compareInt x2 y2)) := rfl
  rw [hc.out]
  simp only
  obtain ⟨c1, hc1⟩ : ∃ c, c = Lib.compareInt x1 y1 := ⟨_, rfl⟩
  obtain ⟨c2, hc2⟩ : ∃ c, c = Lib.compareInt x2 y2 := ⟨_, rfl⟩
  have H1 : Hid (∀ w, Calls Try.prog 127 #[.int .i64 x1, .int .i64 y1] w fun e w' => e = .returned (.int .i64 c1) ∧ w = w') := Lib.hid fun w => by rw [hc1]; exact cmp_any x1 y1 w
  have H2 : Hid (∀ w, Calls Try.prog 127 #[.int .i64 x2, .int .i64 y2] w fun e w' => e = .returned (.int .i64 c2) ∧ w = w') := Lib.hid fun w => by rw [hc2]; exact cmp_any x2 y2 w
  rw [← hc1, ← hc2]
  clear hc hc1 hc2
  go_enter Try.func129, Try.ntmps129
  go_upto_region 1 with fail
  obtain ⟨w2, hw2⟩ : ∃ w2, w2 = (w.alloc (.cells #[.int .i64 x1, .int .i64 x2] 81)).alloc (.cells #[.int .i64 y1, .int .i64 y2] 81) := ⟨_, rfl⟩
  have s1 : (w.alloc (.cells #[.int .i64 x1, .int .i64 x2] 81)).heap.size = w.heap.size + 1 := by simp
  have hx1 : w2.cell? ⟨w.heap.size, 0, none⟩ = some (.int .i64 x1) := by
    rw [hw2, World.cell?_of_block (a := ⟨w.heap.size, 0, none⟩) (heap_alloc_old _ _ (by simp)), World.cell?_alloc_at _ _ _ _ rfl]; rfl
  have hx2 : w2.cell? ⟨w.heap.size, 1, none⟩ = some (.int .i64 x2) := by
    rw [hw2, World.cell?_of_block (a := ⟨w.heap.size, 1, none⟩) (heap_alloc_old _ _ (by simp)), World.cell?_alloc_at _ _ _ _ rfl]; rfl
  have hy1 : w2.cell? ⟨w.heap.size + 1, 0, none⟩ = some (.int .i64 y1) := by rw [hw2, World.cell?_alloc_at _ _ _ _ s1.symm]; rfl
  have hy2 : w2.cell? ⟨w.heap.size + 1, 1, none⟩ = some (.int .i64 y2) := by rw [hw2, World.cell?_alloc_at _ _ _ _ s1.symm]; rfl
  obtain ⟨N, hN⟩ : ∃ N, N = w.heap.size := ⟨_, rfl⟩
  have hz2 : w2.heap.size = N + 2 := by rw [hw2, hN]; simp
  have hf : Hid (∃ o1 o2, w2 = (w.alloc o1).alloc o2) := ⟨_, _, hw2⟩
  rw [← hw2]
  rw [← hN] at hx1 hx2 hy1 hy2 ⊢
  clear hw2 hN s1
  have z1 : w2.drew.cell? ⟨N, 0, none⟩ = some (.int .i64 x1) := hx1
  have z2 : w2.drew.cell? ⟨N, 1, none⟩ = some (.int .i64 x2) := hx2
  have z3 : w2.drew.cell? ⟨N + 1, 0, none⟩ = some (.int .i64 y1) := hy1
  have z4 : w2.drew.cell? ⟨N + 1, 1, none⟩ = some (.int .i64 y2) := hy2
  have HOR : Hid (∀ o w3, w3 = w2.drew.alloc (.cells #[.int .i64 c1, .int .i64 c2] o) → Calls Try.prog 130 #[.slice (some ⟨w2.heap.size, 0, none⟩) 2 2] w3 fun e w' => e = .returned (.int .i64 (orP c1 c2)) ∧ w3 = w') := Lib.hid fun o w3 h3 => by
    subst h3
    refine or_any _ 2 c1 c2 _ ?_ ?_
    · show (w2.drew.alloc _).cell? ⟨w2.drew.heap.size, 0, none⟩ = _; rw [World.cell?_alloc_at _ _ _ _ rfl]; rfl
    · show (w2.drew.alloc _).cell? ⟨w2.drew.heap.size, 1, none⟩ = _; rw [World.cell?_alloc_at _ _ _ _ rfl]; rfl
  clear hz2
  go_wp2
  go_region_held3 (fun w' => w'.cell? ⟨N, 0, none⟩ = some (.int .i64 x1) ∧ w'.cell? ⟨N, 1, none⟩ = some (.int .i64 x2) ∧ w'.cell? ⟨N + 1, 0, none⟩ = some (.int .i64 y1) ∧ w'.cell? ⟨N + 1, 1, none⟩ = some (.int .i64 y2)) (first | go_keep | exact ⟨hx1, hx2, hy1, hy2⟩)
    (first | (go_at_call_of 127 (Value.int .i64 x1); refine (H1.out _).mono ?_; rintro e w' ⟨rfl, rfl⟩) | (go_at_call_of 127 (Value.int .i64 x2); refine (H2.out _).mono ?_; rintro e w' ⟨rfl, rfl⟩) | (go_at_call 130; refine (HOR.out _ _ rfl).mono ?_; rintro e w' ⟨rfl, rfl⟩) | fail)
  all_goals
    go_wp2
    go_ret
    obtain ⟨o1, o2, h⟩ := hf.out
    refine ⟨rfl, o1, o2, .cells #[.int .i64 c1, .int .i64 c2] 3, ?_⟩
    rw [h]; rfl
end Go.Proofs.Ytdmpbbgcifodeaa
