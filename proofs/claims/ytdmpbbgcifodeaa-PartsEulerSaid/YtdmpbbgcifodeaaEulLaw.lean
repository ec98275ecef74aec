/-
  PartsEuler: the law, walked.
-/
import Derived.Test.YtdmpbbgcifodeaaEul2W
namespace Go.Proofs.Ytdmpbbgcifodeaa
open Go.RowKit

theorem same_yes (A A' : Option Addr) (cap cap' n m : Nat) (xs ys : List Int) (w : World) (hx : xs.length ≤ 9223372036854775807) (h : Sl w w.heap.size A (ints xs)) (h' : Sl w w.heap.size A' (ints ys)) (e : xs = ys) (hn : n = xs.length) (hm : m = ys.length) :
    Calls Try.prog 14 #[.slice A n cap, .slice A' m cap'] w fun e w' => e = .returned (.bool true) ∧ Below w.heap.size w w' := by
  subst hn
  subst hm
  subst e
  refine (same_b A A' cap cap' xs xs w hx hx h h').mono ?_
  rintro e w' ⟨rfl, hb⟩
  exact ⟨by simp, hb⟩

theorem euler_lit : sortD (mergeL [3, 3, 1]) = [6, 1] := sortD_eq ⟨by decide, by decide⟩ (by rw [show mergeL [3, 3, 1] = [1, 6] by decide]; exact List.Perm.swap _ _ _)

set_option maxRecDepth 100000 in
set_option maxHeartbeats 2000000 in
theorem euler_law (A : Option Addr) (cap : Nat) (p : List Int) (w : World) (hcl : p.length ≤ 9223372036854775807) (h : Sl w w.heap.size A (ints p)) :
    Calls Try.prog 11 #[.slice A p.length cap] w fun e w' => e = .returned (.bool true) ∧ Below w.heap.size w w' := by
  have hB := Nat.le_refl w.heap.size
  have H := Lib.hid h
  have hm0 := merge_any (some ⟨w.heap.size, 0, none⟩) 3 [3, 3, 1] _ (by simp) (sl_lit w (ints [3, 3, 1]) _ (by simp))
  have HM0 := Lib.hid hm0
  clear hm0 h
  go_enter Try.func11, Try.ntmps11
  go_wp2_with (first | (go_at_call 51; refine (HM0.out).mono ?_) | fail)
  rintro e w1 ⟨⟨k1, x1, A1, c1, rfl, hs1, _, hz1, hk1, _⟩, hb1⟩
  have hk10 := hk1 ⟨⟨by decide, by decide⟩, by decide, by decide⟩
  have hx1 := (hz1 hk10).2
  rw [euler_lit] at hx1
  subst hk10
  subst hx1
  have hW1 : Below w.heap.size w w1 := below_call (below_lay (Below.refl _ _) hB _) hB hb1
  have hr1 := same_yes A1 (some ⟨w1.heap.size, 0, none⟩) c1 2 2 2 [6, 1] [6, 1] _ (by simp) (hs1.keep (below_lay (Below.refl _ _) (Nat.le_refl _) _)) (sl_lit w1 (ints [6, 1]) _ (by simp)) rfl rfl rfl
  have HR1 := Lib.hid hr1
  clear hb1 hz1 hk1 hs1 HM0 hr1
  go_wp2_with (first | (go_at_call 14; refine (HR1.out).mono ?_) | fail)
  rintro e w2 ⟨rfl, hb2⟩
  have hW2 : Below w.heap.size w w2 := below_call (below_lay hW1 hB _) hB hb2
  have hS2 := H.out.now hW2 hB
  clear hb2 HR1 hW1
  go_wp2_with (first | (go_at_call 51; refine (merge_any A cap p _ hcl hS2).mono ?_) | fail)
  rintro e w3 ⟨⟨k3, q, A3, c3, rfl, hs3, hl3, hz3, _, _⟩, hb3⟩
  have hW3 : Below w.heap.size w w3 := below_call hW2 hB hb3
  have HS3 := Lib.hid hs3
  have HZ3 := Lib.hid hz3
  clear hb3 hW2 hS2 hs3 hz3
  go_upto_if 32 with fail
  go_cut [] (fun wz => Below w.heap.size w wz)
  case first =>
    by_cases hk3 : k3 = 0
    · obtain ⟨⟨hp, hs, ho⟩, hq⟩ := HZ3.out hk3
      obtain ⟨m1, m2, m3, m4⟩ := merge_split hp hs ho
      rw [← hq] at m1 m2 m3 m4
      have HOK := Lib.hid (show IsPart q ∧ q.sum ≤ 40 ∧ IsUnlike q from ⟨m1, m2, m3⟩)
      have HM4 := Lib.hid m4
      subst hk3
      clear HZ3 hp hs ho hq m1 m2 m3 m4
      go_wp2_with (first | (go_at_call 52; refine (split_any A3 c3 q _ (by omega) HS3.out).mono ?_) | fail)
      rintro e w4 ⟨k4, b, A4, c4, rfl, hs4, hl4, hz4, hk4, _⟩ hb4
      have hk40 := hk4 HOK.out
      have hbe := (hz4 hk40).2
      rw [HM4.out] at hbe
      have hW4 : Below w.heap.size w w4 := below_call hW3 hB hb4
      have HS4 := Lib.hid hs4
      have HBE := Lib.hid hbe
      have hP4 := Lib.hid (H.out.now hW4 hB)
      subst hk40
      clear hb4 hz4 hk4 hs4 hbe HS3
      go_wp2_with (first | (go_at_call 14; refine (same_yes A4 A c4 cap _ _ b p _ (by omega) HS4.out hP4.out HBE.out rfl rfl).mono ?_) | fail)
      rintro e w5 ⟨rfl, hb5⟩
      have hW5 : Below w.heap.size w w5 := below_call hW4 hB hb5
      go_wp2
      go_meet
      exact hW5
    · have dk : (k3 == 0) = false := by simpa using hk3
      clear HZ3
      go_wp2
      go_meet
      exact hW3
  case rest =>
    have hW := hcut
    have hS := H.out.now hW hB
    clear hcut HS3 HZ3 hW3
    go_wp2_with (first | (go_at_call 52; refine (split_any A cap p _ hcl hS).mono ?_) | fail)
    rintro e w6 ⟨⟨k6, q6, A6, c6, rfl, hs6, hl6, hz6, _, hn6⟩, hb6⟩
    have hW6 : Below w.heap.size w w6 := below_call hW hB hb6
    have HS6 := Lib.hid hs6
    have HZ6 := Lib.hid hz6
    have HN6 := Lib.hid hn6
    clear hb6 hW hS hs6 hz6 hn6
    by_cases hk6 : k6 = 0
    · obtain ⟨⟨hp, hs, ho⟩, hq⟩ := HZ6.out hk6
      obtain ⟨m1, m2, m3, m4⟩ := split_merge hp hs ho
      rw [← hq] at m1 m2 m3 m4
      have HOK := Lib.hid (show IsPart q6 ∧ q6.sum ≤ 40 ∧ ∀ x ∈ q6, x % 2 = 1 from ⟨m1, m2, m3⟩)
      have HM4 := Lib.hid m4
      subst hk6
      clear HZ6 HN6 hp hs ho hq m1 m2 m3 m4
      go_wp2_with (first | (go_at_call 51; refine (merge_any A6 c6 q6 _ (by omega) HS6.out).mono ?_) | fail)
      rintro e w7 ⟨⟨k7, b, A7, c7, rfl, hs7, hl7, hz7, hk7, _⟩, hb7⟩
      have hk70 := hk7 HOK.out
      have hbe := (hz7 hk70).2
      rw [HM4.out] at hbe
      have hW7 : Below w.heap.size w w7 := below_call hW6 hB hb7
      have HS7 := Lib.hid hs7
      have HBE := Lib.hid hbe
      have hP7 := Lib.hid (H.out.now hW7 hB)
      subst hk70
      clear hb7 hz7 hk7 hs7 hbe HS6
      go_wp2_with (first | (go_at_call 14; refine (same_yes A7 A c7 cap _ _ b p _ (by omega) HS7.out hP7.out HBE.out rfl rfl).mono ?_) | fail)
      rintro e w8 ⟨rfl, hb8⟩
      have hW8 : Below w.heap.size w w8 := below_call hW7 hB hb8
      go_wp2
      go_ret
      exact ⟨rfl, hW8⟩
    · have dk : (k6 != 0) = true := by simpa using hk6
      have hnil := HN6.out hk6
      subst hnil
      clear HZ6 HN6
      go_wp2
      go_ret
      exact ⟨rfl, hW6⟩
end Go.Proofs.Ytdmpbbgcifodeaa
