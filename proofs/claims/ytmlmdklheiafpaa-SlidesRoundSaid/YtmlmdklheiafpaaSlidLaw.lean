/-
  SlidesSame: the law, walked.
-/
import Derived.Test.YtmlmdklheiafpaaSlid8W
import Derived.Test.YtmlmdklheiafpaaSidesLaw
import Derived.Test.YtmlmdklheiafpaaTabl7W
namespace Go.Proofs.Ytmlmdklheiafpaa
open Go.RowKit

theorem lit2_srA (w : World) (r s : List Int) (l1 : r.length ≤ 1000) (l2 : s.length ≤ 1000) : SR (((w.alloc (.cells (ints r).toArray 3)).alloc (.cells (ints s).toArray 3)).alloc (.cells #[.slice (some ⟨w.heap.size, 0, none⟩) r.length r.length, .slice (some ⟨w.heap.size + 1, 0, none⟩) s.length s.length] 22)) (w.heap.size + 3) (some ⟨w.heap.size + 2, 0, none⟩) [r, s] := by
  have a1 : (w.alloc (.cells (ints r).toArray 3)).heap.size = w.heap.size + 1 := by simp
  have a2 : ((w.alloc (.cells (ints r).toArray 3)).alloc (.cells (ints s).toArray 3)).heap.size = w.heap.size + 2 := by simp
  refine ⟨[.slice (some ⟨w.heap.size, 0, none⟩) r.length r.length, .slice (some ⟨w.heap.size + 1, 0, none⟩) s.length s.length], rfl, fun _ => ⟨w.heap.size + 2, 0, rfl, by omega, fun j u hu => ?_⟩, fun k hk => ?_⟩
  · rw [World.cell?_alloc_at _ _ _ _ (by rw [a2])]; simpa using hu
  · match k, hk with
    | 0, _ =>
      refine ⟨_, _, rfl, ?_, by simp; omega⟩
      have h1 := (sl_litA w (ints r) (w.heap.size + 1) (by omega)).below (((Below.refl _ (w.alloc (.cells (ints r).toArray 3))).alloc (by rw [a1]; exact Nat.le_refl _) (.cells (ints s).toArray 3)))
      have h2 := h1.below (((Below.refl _ ((w.alloc (.cells (ints r).toArray 3)).alloc (.cells (ints s).toArray 3))).alloc (B := w.heap.size + 1) (by rw [a2]; omega) (.cells #[.slice (some ⟨w.heap.size, 0, none⟩) r.length r.length, .slice (some ⟨w.heap.size + 1, 0, none⟩) s.length s.length] 22)))
      exact h2.more (by omega)
    | 1, _ =>
      refine ⟨_, _, rfl, ?_, by simp; omega⟩
      have h1 := (sl_litA (w.alloc (.cells (ints r).toArray 3)) (ints s) (w.heap.size + 2) (by rw [a1]; omega))
      rw [a1] at h1
      have h2 := h1.below (((Below.refl _ ((w.alloc (.cells (ints r).toArray 3)).alloc (.cells (ints s).toArray 3))).alloc (B := w.heap.size + 2) (by rw [a2]; exact Nat.le_refl _) (.cells #[.slice (some ⟨w.heap.size, 0, none⟩) r.length r.length, .slice (some ⟨w.heap.size + 1, 0, none⟩) s.length s.length] 22)))
      exact h2.more (by omega)
theorem skok_lit : SkOk [[0, 1], [1]] := by
  refine ⟨fun i hi => ?_, by decide⟩
  match i, hi with
  | 0, _ =>
    refine ⟨by decide, fun h => absurd h (by decide), fun j hj h1 => ?_⟩
    match j, hj, h1 with
    | 0, _, h1 => exact absurd h1 (by decide)
    | 1, _, _ => exact ⟨⟨by decide, by decide⟩, fun _ => by decide, fun h => absurd h (by decide)⟩
  | 1, _ =>
    refine ⟨by decide, fun _ => by decide, fun j hj h1 => ?_⟩
    match j, hj, h1 with
    | 0, _, _ => exact ⟨⟨by decide, by decide⟩, fun h => absurd h (by decide), fun _ => by decide⟩

set_option maxRecDepth 100000 in
set_option maxHeartbeats 2000000 in
theorem slsame_law (A C : Option Addr) (cap cap2 : Nat) (T O : List (List Int)) (z : Int) (w : World) (hT : T.length ≤ 9223372036854775807) (hO : O.length ≤ 9223372036854775807) (h : SR w w.heap.size A T) (h2 : SR w w.heap.size C O) (hcp : SCap w A T.length) :
    Calls Try.prog 13 #[.slice A T.length cap, .slice C O.length cap2, .int .i64 z] w fun e w' => e = .returned (.bool true) ∧ Below w.heap.size w w' := by
  have hB := Nat.le_refl w.heap.size
  have H := Lib.hid h
  have H2 := Lib.hid h2
  have HCP := Lib.hid hcp
  have s0 : SR _ _ _ _ := lit2_srA w [0, 1] [1] (by decide) (by decide)
  have hr0 := rectify_any (some ⟨w.heap.size + 2, 0, none⟩) 2 [[0, 1], [1]] _ (by simp) (s0.more (by simp))
  have HR0 := Lib.hid hr0
  clear h h2 hcp s0 hr0
  go_enter Try.func13, Try.ntmps13
  go_wp2_with (first | (go_at_call 51; refine (HR0.out).mono ?_) | fail)
  rintro e w1 ⟨⟨k, rows, A1, c1, rfl, hs1, _, hz, hk, _⟩, hb1⟩
  have hk0 := hk skok_lit
  have hr1 := (hz hk0).2
  rw [show insW [] (sword [[0, 1], [1]]) = [[1, 1]] by decide] at hr1
  subst hk0
  subst hr1
  have hW1 : Below w.heap.size w w1 := below_call ((((Below.refl _ w).alloc hB _).alloc (by simp) _).alloc (by simp; omega) _) hB hb1
  have hr1 := rows_any A1 (some ⟨w1.heap.size + 1, 0, none⟩) c1 1 [[1, 1]] [[1, 1]] _ (by simp) (by simp) (hs1.keep (((Below.refl _ _).alloc (Nat.le_refl _) _).alloc (by simp) _)) (SR.more (lit1_srA w1 [1, 1] w1.heap.size rfl (by simp)) (by simp))
  have HR1 := Lib.hid hr1
  clear hb1 hz hk hs1 HR0 hr1
  go_wp2_with (first | (go_at_call 31; refine (HR1.out).mono ?_) | fail)
  rintro e w2 ⟨rfl, hb2⟩
  have hW2 : Below w.heap.size w w2 := below_call ((hW1.alloc hW1.size _).alloc (by have := hW1.size; simp; omega) _) hB hb2
  have hS2 := H.out.now hW2 hB
  clear hb2 HR1 hW1
  go_wp2_with (first | (go_at_call 51; refine (rectify_any A cap T _ hT hS2).mono ?_) | fail)
  rintro e w3 ⟨⟨k3, ra, A3, c3, rfl, hs3, hl3, hz3, _, hn3⟩, hb3⟩
  have hW3 : Below w.heap.size w w3 := below_call hW2 hB hb3
  have HS3 := Lib.hid hs3
  by_cases hk3 : k3 = 0
  · obtain ⟨hok, hra⟩ := hz3 hk3
    have HOK := Lib.hid hok
    have HRA := Lib.hid hra
    have hw := hok.word
    have hch := wordChk_ok (by omega) hw.2
    have hS3 := H.out.now hW3 hB
    have hcp3 := HCP.out.below H.out hW3
    subst hk3
    clear hz3 hn3 hb3 hW2 hok hra hS2 hs3
    go_wp2_with (first | (go_at_call 52; refine (word_any A cap T _ hT hS3 hcp3).mono ?_) | fail)
    rintro e w4 ⟨⟨k4, A4, c4, xs, rfl, hs4, hz4, hk4⟩, hb4⟩
    have hk40 := hk4 HOK.out
    have hxs := (hz4 hk40).2
    have hW4 : Below w.heap.size w w4 := below_call hW3 hB hb4
    have HS4 := Lib.hid (HS3.out.keep hb4)
    subst hk40
    rw [← hxs] at hch
    have hx40 : xs.length ≤ 40 := by rw [hxs]; exact hw.1
    have HXS := Lib.hid hxs
    have HCH := Lib.hid hch
    clear hb4 hW3 hk4 hz4 HS3 hS3 hcp3 hxs hch hw
    go_wp2_with (first | (go_at_call 37; go_loud (refine (make_any A4 c4 xs _ (by omega) hs4).mono ?_)) | fail)
    rintro e w5 ⟨⟨k5, A5, A6, c5, c6, P, Q, rfl, hs5, _, hl5, _, hk5, hz5, _⟩, hb5⟩
    rw [HCH.out] at hk5
    have hP := (hz5 hk5).1
    rw [HXS.out] at hP
    have hW5 : Below w.heap.size w w5 := below_call hW4 hB hb5
    have HS5 := Lib.hid (HS4.out.keep hb5)
    have HP5 := Lib.hid hs5
    subst hk5
    have d1 : Hid (decide (ra = P) = true) := decide_eq_true (by rw [HRA.out, hP])
    clear hb5 hW4 hz5 hs4 HS4 hP hs5
    go_wp2_with (first | (go_at_call 31; refine (rows_any A3 A5 c3 c5 ra P _ hl3 hl5 HS5.out HP5.out).mono ?_) | fail)
    rintro e w6 ⟨rfl, hb6⟩
    rw [d1.out]
    have hW6 : Below w.heap.size w w6 := below_call hW5 hB hb6
    have HS6 := Lib.hid (HS5.out.keep hb6)
    have hS6 := H.out.now hW6 hB
    have hO6 := H2.out.now hW6 hB
    clear hb6 hW5 HS5 HP5 d1
    go_wp2_with (first | (go_at_call 53; refine (rectby_any A C cap cap2 T O _ hT hO hS6 hO6).mono ?_) | fail)
    rintro e w7 ⟨⟨k7, rb, A7, c7, rfl, hs7, hl7, hz7⟩, hb7⟩
    have hW7 : Below w.heap.size w w7 := below_call hW6 hB hb7
    have HS7 := Lib.hid (HS6.out.keep hb7)
    have HT7 := Lib.hid hs7
    have HZ7 := Lib.hid hz7
    clear hb7 hW6 HS6 hS6 hO6 hs7 hz7
    go_upto_region 12 with fail
    go_cut [85] (fun bv wz => bv = .bool false ∧ Below w.heap.size w wz ∧ SR wz wz.heap.size A3 ra)
    case first =>
      by_cases hk7 : k7 = 0
      · have hrb := HZ7.out hk7
        have d2 : Hid (decide (ra = rb) = true) := decide_eq_true (by rw [HRA.out, hrb])
        subst hk7
        clear HZ7 hrb
        go_wp2_with (first | (go_at_call 31; refine (rows_any A3 A7 c3 c7 ra rb _ hl3 hl7 HS7.out HT7.out).mono ?_) | fail)
        rintro e w8 ⟨rfl, hb8⟩
        rw [d2.out]
        have hW8 : Below w.heap.size w w8 := below_call hW7 hB hb8
        have hS8 := HS7.out.keep hb8
        go_wp2
        go_meet
        exact ⟨rfl, hW8, hS8⟩
      · have dk : (k7 == 0) = false := by simpa using hk7
        go_wp2
        go_meet
        exact ⟨rfl, hW7, HS7.out⟩
    case rest =>
      obtain ⟨rfl, hW8, hS8⟩ := hcut
      have HS8 := Lib.hid hS8
      have hT8 := H.out.now hW8 hB
      clear hW7 HS7 HT7 HZ7 hS8
      go_wp2_with (first | (go_at_call 54; refine (slide_any A cap T z _ hT hT8).mono ?_) | fail)
      rintro e w9 ⟨⟨k9, row, rb, A9, c9, rfl, hs9, hl9, hz9⟩, hb9⟩
      have hW9 : Below w.heap.size w w9 := below_call hW8 hB hb9
      have HS9 := Lib.hid (HS8.out.keep hb9)
      clear hb9 hW8 HS8 hT8
      by_cases hk9 : k9 = 0
      · obtain ⟨hok9, hkn9⟩ := hz9 hk9
        have HOK9 := Lib.hid hok9
        have HKN9 := Lib.hid hkn9
        subst hk9
        clear hz9 hok9 hkn9
        go_wp2_with (first | (go_at_call 51; refine (rectify_any A9 c9 rb _ hl9 hs9).mono ?_) | fail)
        rintro e w10 ⟨⟨k10, rc, A10, c10, rfl, hs10, hl10, hz10, hk10, _⟩, hb10⟩
        have hk100 := hk10 HOK9.out
        have hrc := (hz10 hk100).2
        have hW10 : Below w.heap.size w w10 := below_call hW9 hB hb10
        have HS10 := Lib.hid (HS9.out.keep hb10)
        have HT10 := Lib.hid hs10
        subst hk100
        have d3 : Hid (decide (ra = rc) = true) := decide_eq_true (by rw [HRA.out, hrc]; exact insW_Kn0 _ (Nat.le_refl _) HKN9.out)
        clear hb10 hW9 HS9 hz10 hk10 hrc hs9 hs10
        go_wp2_with (first | (go_at_call 31; refine (rows_any A3 A10 c3 c10 ra rc _ hl3 hl10 HS10.out HT10.out).mono ?_) | fail)
        rintro e w11 ⟨rfl, hb11⟩
        rw [d3.out]
        have hW11 : Below w.heap.size w w11 := below_call hW10 hB hb11
        go_wp2
        go_ret
        exact ⟨rfl, hW11⟩
      · have dk : (k9 == 0) = false := by simpa using hk9
        clear hz9
        go_wp2
        go_ret
        exact ⟨rfl, hW9⟩
  · have dk : (k3 != 0) = true := by simpa using hk3
    have hnil := hn3 hk3
    subst hnil
    clear hz3 hn3 hb3 hW2 hS2 hs3
    go_wp2
    go_ret
    exact ⟨rfl, hW3⟩
end Go.Proofs.Ytmlmdklheiafpaa
