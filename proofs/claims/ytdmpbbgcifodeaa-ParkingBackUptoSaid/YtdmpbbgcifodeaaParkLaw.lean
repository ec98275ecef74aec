/-
  ferkeep.ParkingBack: it answers true.
-/
import Derived.Test.YtdmpbbgcifodeaaPBakM
import Derived.Test.YtdmpbbgcifodeaaPSamW
import Derived.Test.YtdmpbbgcifodeaaEdgW
namespace Go.Proofs.Ytdmpbbgcifodeaa
open Go.RowKit

set_option maxRecDepth 100000 in
set_option maxHeartbeats 8000000 in
theorem law_any (A0 A1 A2 : Option Addr) (cap0 cap1 cap2 : Nat) (c cars : List Int) (l : List Edge) (w : World) (hc0 : c.length ≤ 1048576) (hc1 : cars.length ≤ 1048576) (hc2 : l.length ≤ 1048576)
    (h0 : Sl w w.heap.size A0 (ints c)) (h1 : Sl w w.heap.size A1 (ints cars)) (h2 : Sl w w.heap.size A2 (pcells l)) :
    Calls Try.prog 12 #[.slice A0 c.length cap0, .slice A1 cars.length cap1, .slice A2 l.length cap2] w fun e w' => e = .returned (.bool true) ∧ Below w.heap.size w w' := by
  have H0 : Hid (∀ {wz : World}, Below w.heap.size w wz → Sl wz wz.heap.size A0 (ints c)) := fun hb => h0.keep hb
  have H1 : Hid (∀ {wz : World}, Below w.heap.size w wz → Sl wz wz.heap.size A1 (ints cars)) := fun hb => h1.keep hb
  have H2 : Hid (∀ {wz : World}, Below w.heap.size w wz → Sl wz wz.heap.size A2 (pcells l)) := fun hb => h2.keep hb
  clear h0 h1 h2
  obtain ⟨N, hN⟩ : ∃ N, N = w.heap.size := ⟨_, rfl⟩
  rw [← hN] at H0 H1 H2 ⊢
  have HNE := Lib.hid hN
  go_enter Try.func12, Try.ntmps12
  obtain ⟨w1, hw1⟩ : ∃ w1, w1 = w.alloc (.cells #[.int .i64 3] 3) := ⟨_, rfl⟩
  have hz1 : w1.heap.size = N + 1 := by rw [hw1, hN]; simp
  have hB1 : Below N w w1 := by rw [hw1, hN]; exact (Below.refl _ _).alloc (Nat.le_refl _) _
  have hS1 : Sl w1 w1.heap.size (some ⟨w.heap.size, 0, none⟩) (ints [3]) := by
    rw [hw1]
    exact Sl.of_own (base := 0) (e := 3) (n := 1) (cap := 1) (own_obj (heap_alloc_new w (.cells #[.int .i64 3] 3)) (Nat.zero_le _) (by omega) rfl)
  have hT1 := ptree_any sorted_any (some ⟨w.heap.size, 0, none⟩) 1 [3] w1 (by simp) hS1
  have HT1 : Hid (Calls Try.prog 53 #[.slice (some ⟨N, 0, none⟩) 1 1] w1 fun e w' => (∃ A cap, e = .returned (.tuple #[.slice A 2 cap, .int .i64 0]) ∧ Sl w' w'.heap.size A (pcells [(1, 3), (2, 3)])) ∧ Below w1.heap.size w1 w') := by
    rw [hN]
    refine (show Calls _ _ _ _ _ from hT1).mono ?_
    rintro e w' ⟨hp, hb⟩
    refine ⟨?_, hb⟩
    rcases hp with ⟨hok, A, cap, E, hr, rfl, hs⟩ | ⟨hno, _⟩
    · rw [edged3 hr] at hs
      exact ⟨A, cap, rfl, hs⟩
    · exact absurd (⟨by decide, by decide⟩ : CodeOk [3]) hno
  have HB1 := Lib.hid hB1
  have HZ1 := Lib.hid hz1
  clear hS1 hT1 hB1 hz1 hN
  go_upto_if 39 with (first | (go_at_call 53; rw [← hw1]; have hh := HT1.out; rw [HNE.out] at hh; refine hh.mono ?_) | fail)
  first | rintro e w2 ⟨⟨A3, c3, rfl, hs3⟩, hb2⟩ | rintro e w2 A3 c3 rfl hs3 hb2
  have HB2 : Hid (Below N w w2) := HB1.out.trans (hb2.mono (by have := HZ1.out; omega))
  obtain ⟨w3, hw3⟩ : ∃ w3, w3 = w2.alloc (.cells #[.int .i64 1, .int .i64 3, .int .i64 2, .int .i64 3] 81) := ⟨_, rfl⟩
  have hb23 : Below w2.heap.size w2 w3 := by rw [hw3]; exact (Below.refl _ _).alloc (Nat.le_refl _) _
  have hS3 : Sl w3 w3.heap.size (some ⟨w2.heap.size, 0, none⟩) (pcells [(1, 3), (2, 3)]) := by
    rw [hw3]
    obtain ⟨A', c', e1, -, h, -, -⟩ := psl_of_own (m := [(1, 3), (2, 3)]) (own_obj (n := 2) (z := 2) (B := 0) (heap_alloc_new w2 (.cells #[.int .i64 1, .int .i64 3, .int .i64 2, .int .i64 3] 81)) (Nat.zero_le _) (by omega) rfl)
    injection e1 with e2
    rw [e2]; exact h
  have hsa := psame_any A3 (some ⟨w2.heap.size, 0, none⟩) c3 2 [(1, 3), (2, 3)] [(1, 3), (2, 3)] w3 (by decide) (by decide) (hs3.keep hb23) hS3
  have HSA : Hid (Calls Try.prog 54 #[.slice A3 2 c3, .slice (some ⟨w2.heap.size, 0, none⟩) 2 2] w3 fun e w' => e = .returned (.bool true) ∧ Below w3.heap.size w3 w') := by
    refine (show Calls _ _ _ _ _ from hsa).mono ?_
    rintro e w' ⟨rfl, n, rfl⟩
    exact ⟨by simp, below_drewN (Below.refl _ _) n⟩
  have HB3 : Hid (Below N w w3) := HB2.out.trans (hb23.mono (by have := HB2.out.size; have := HNE.out; omega))
  clear hs3 hb2 hb23 hS3 hsa HB1 HT1 HZ1 hw1 HB2
  go_upto_if 39 with (first | (go_at_call 54; rw [← hw3]; refine HSA.out.mono ?_) | fail)
  first | rintro e w4 rfl hb4 | rintro e w4 ⟨rfl, hb4⟩
  have HB : Hid (Below N w w4) := HB3.out.trans (hb4.mono (by have := HB3.out.size; have := HNE.out; omega))
  clear hb4 HSA HB3 hw3
  go_upto_if 46 with (first | (go_at_call 53; refine (ptree_any sorted_any A0 cap0 c w4 (by omega) (H0.out HB.out)).mono ?_) | fail)
  --CUTB
  rintro e w5 ⟨hp, hb5⟩
  obtain ⟨v, k, rfl, hr⟩ := hp.res
  have HB5 : Hid (Below N w w5) := HB.out.trans (hb5.mono (by have := HB.out.size; have := HNE.out; omega))
  have HR := Lib.hid hr
  clear hp hb5 HB hr
  go_upto_if 46 with fail
  go_cut [] (fun wz => Below N w wz)
  case first =>
    rcases HR.out with ⟨hk, hok, A, cap, E, hrun, rfl, hs⟩ | ⟨hk, -⟩
    · subst hk
      obtain ⟨hct, hu⟩ := code_of_tree hok hrun
      have HCO := Lib.hid (code_any A cap (edgedL E) w5 (by have := hct.2.2; omega) hs)
      have HCT := Lib.hid hct
      have HU := Lib.hid hu
      clear hrun hs hct hu HR hok
      go_upto_if 59 with (first | (go_at_call 55; refine HCO.out.mono ?_) | fail)
      rintro e w6 ⟨hp, hb6⟩
      have HB6 : Hid (Below N w w6) := HB5.out.trans (hb6.mono (by have := HB5.out.size; have := HNE.out; omega))
      rcases hp with ⟨-, A', cap', d, hd, rfl, hs'⟩ | ⟨hno, -⟩
      · obtain rfl := HU.out d hd
        have HSM := Lib.hid (same_any A' A0 cap' cap0 d d w6 (by omega) (by omega) hs' (H0.out HB6.out))
        clear hs' hd hb6 HCO HCT HU HB5
        go_upto_if 59 with (first | (go_at_call 14; refine HSM.out.mono ?_) | fail)
        first | rintro e w7 rfl n rfl | rintro e w7 ⟨rfl, n, rfl⟩
        have hfin := below_drewN HB6.out n
        have e1 : decide (d = d) = true := by simp
        go_wp2
        go_meet
        exact hfin
      · exact absurd HCT.out hno
    · have hk1 : (k == 0) = false := by simpa using hk
      go_wp2
      go_meet
      exact HB5.out
  case rest =>
    clear HR HB5 H0
    have HB := Lib.hid hcut
    clear hcut
    obtain ⟨w4, rfl⟩ : ∃ w4, w4 = wc := ⟨_, rfl⟩
    go_upto_if 66 with (first | (go_at_call 56; refine (root_any A1 cap1 cars w4 (by omega) (H1.out HB.out)).mono ?_) | fail)
    rintro e w5 ⟨hp, hb5⟩
    obtain ⟨v, k, rfl, hr⟩ := hp.res
    have HB5 : Hid (Below N w w5) := HB.out.trans (hb5.mono (by have := HB.out.size; have := HNE.out; omega))
    have HR := Lib.hid hr
    clear hp hb5 HB hr
    go_upto_if 66 with fail
    go_cut [] (fun wz => Below N w wz)
    case first =>
      rcases HR.out with ⟨hk, hok, A, cap, rfl, hs⟩ | ⟨hk, -⟩
      · subst hk
        have HUN := Lib.hid (unr_root A cap cars w5 hok.1 hok.2 hs)
        clear hs hok HR
        go_upto_if 79 with (first | (go_at_call 57; refine HUN.out.mono ?_) | fail)
        first | rintro e w6 ⟨⟨A', cap', rfl, hs'⟩, hb6⟩ | rintro e w6 A' cap' rfl hs' hb6
        have HB6 : Hid (Below N w w6) := HB5.out.trans (hb6.mono (by have := HB5.out.size; have := HNE.out; omega))
        have HSM := Lib.hid (same_any A' A1 cap' cap1 cars cars w6 (by omega) (by omega) hs' (H1.out HB6.out))
        clear hs' hb6 HUN HB5
        go_upto_if 79 with (first | (go_at_call 14; refine HSM.out.mono ?_) | fail)
        first | rintro e w7 rfl n rfl | rintro e w7 ⟨rfl, n, rfl⟩
        have hfin := below_drewN HB6.out n
        have e1 : decide (cars = cars) = true := by simp
        go_wp2
        go_meet
        exact hfin
      · have hk1 : (k == 0) = false := by simpa using hk
        go_wp2
        go_meet
        exact HB5.out
    case rest =>
      clear HR HB5 H1
      have HB := Lib.hid hcut
      clear hcut
      obtain ⟨w4, rfl⟩ : ∃ w4, w4 = wc := ⟨_, rfl⟩
      go_upto_if 86 with (first | (go_at_call 57; refine (unr_any A2 cap2 l w4 (by omega) (H2.out HB.out)).mono ?_) | fail)
      rintro e w5 ⟨⟨v, k, rfl, hr⟩, hb5⟩
      have HB5 : Hid (Below N w w5) := HB.out.trans (hb5.mono (by have := HB.out.size; have := HNE.out; omega))
      have HR := Lib.hid hr
      clear hb5 HB hr
      go_upto_if 86 with fail
      go_cut [] (fun wz => Below N w wz)
      case first =>
        rcases HR.out with ⟨hk, A, cap, d, hd1, hd2, hd3, hd4, rfl, hs⟩ | hk
        · subst hk
          have HRO := Lib.hid (root_any A cap d w5 (by omega) hs)
          have hes : edgedL (edgesD d) = edgedL l := edged_same hd4
          have HES := Lib.hid hes
          have HOK : Hid (d.length ≤ 20 ∧ Crit d) := ⟨by omega, hd3⟩
          have HL20 : Hid (l.length ≤ 20) := hd2
          clear hs hes hd1 hd2 hd3 hd4 HR
          go_upto_if 100 with (first | (go_at_call 56; refine HRO.out.mono ?_) | fail)
          rintro e w6 ⟨hp, hb6⟩
          have HB6 : Hid (Below N w w6) := HB5.out.trans (hb6.mono (by have := HB5.out.size; have := HNE.out; omega))
          obtain ⟨v, k, rfl, hr⟩ := hp.res
          rcases hr with ⟨hk, -, A', cap', rfl, hs'⟩ | ⟨-, hno⟩
          · subst hk
            rw [HES.out] at hs'
            rw [HES.out, edged_len]
            have HED := Lib.hid (edged_any A2 cap2 l w6 HL20.out (H2.out HB6.out))
            have HS6 := Lib.hid hs'
            clear hs' hp hb6 HRO HB5
            obtain ⟨T, hT⟩ : ∃ T, T = edgedL l := ⟨_, rfl⟩
            have hTl : T.length = l.length := by rw [hT, edged_len]
            rw [← hT] at HS6 HED
            have HTL := Lib.hid hTl
            clear hT hTl
            go_upto_if 100 with (first | (go_at_call 58; refine HED.out.mono ?_) | fail)
            first | rintro e w7 A8 c8 rfl hs8 hb7 | rintro e w7 ⟨⟨A8, c8, rfl, hs8⟩, hb7⟩
            have HB7 : Hid (Below N w w7) := HB6.out.trans (hb7.mono (by have := HB6.out.size; have := HNE.out; omega))
            have hsm := (psame_any A' A8 cap' c8 T T w7 (by have := HL20.out; rw [HTL.out]; omega) (by have := HL20.out; rw [HTL.out]; omega) (HS6.out.keep hb7) hs8)
            rw [HTL.out] at hsm
            have HSM := Lib.hid hsm
            clear hsm hs8 hb7 HED HS6 HB6
            go_upto_if 100 with (first | (go_at_call 54; refine HSM.out.mono ?_) | fail)
            first | rintro e w8 rfl n rfl | rintro e w8 ⟨rfl, n, rfl⟩
            have hfin := below_drewN HB7.out n
            have e1 : decide (T = T) = true := by simp
            go_wp2
            go_meet
            exact hfin
          · exact absurd HOK.out hno
        · have hk1 : (k == 0) = false := by simpa using hk
          go_wp2
          go_meet
          exact HB5.out
      case rest =>
        clear HR HB5
        have HB := Lib.hid hcut
        clear hcut
        obtain ⟨w4, rfl⟩ : ∃ w4, w4 = wc := ⟨_, rfl⟩
        go_upto_if 107 with (first | (go_at_call 55; refine (code_any A2 cap2 l w4 (by omega) (H2.out HB.out)).mono ?_) | fail)
        rintro e w5 ⟨hp, hb5⟩
        obtain ⟨v, k, rfl, hr⟩ := hp.res
        have HB5 : Hid (Below N w w5) := HB.out.trans (hb5.mono (by have := HB.out.size; have := HNE.out; omega))
        clear hp hb5 HB
        rcases hr with ⟨hk, hct, A, cap, d, hrun, rfl, hs⟩ | ⟨hk, -, rfl⟩
        · subst hk
          obtain ⟨hok, hu⟩ := tree_of_code hct hrun
          have HTR := Lib.hid (ptree_any sorted_any A cap d w5 (by have := hok.1; omega) hs)
          have HOK := Lib.hid hok
          have HU := Lib.hid hu
          have HL20 : Hid (l.length ≤ 20) := by have := hct.2.2; exact Nat.le_trans this (by decide)
          clear hs hct hrun hok hu
          go_upto_region 23 with (first | (go_at_call 53; refine HTR.out.mono ?_) | fail)
          rintro e w6 ⟨hp, hb6⟩
          have HB6 : Hid (Below N w w6) := HB5.out.trans (hb6.mono (by have := HB5.out.size; have := HNE.out; omega))
          obtain ⟨v, k, rfl, hr⟩ := hp.res
          rcases hr with ⟨hk, -, A', cap', E, hE, rfl, hs'⟩ | ⟨-, hno⟩
          · subst hk
            rw [HU.out E hE] at hs'
            rw [HU.out E hE]
            have HED := Lib.hid (edged_any A2 cap2 l w6 HL20.out (H2.out HB6.out))
            have HS6 := Lib.hid hs'
            clear hs' hp hb6 HTR HB5
            obtain ⟨T, hT⟩ : ∃ T, T = edgedL l := ⟨_, rfl⟩
            have hTl : T.length = l.length := by rw [hT, edged_len]
            rw [← hT] at HS6 HED ⊢
            have HTL := Lib.hid hTl
            clear hT hTl
            go_wp2_with (first | (go_at_call 58; refine HED.out.mono ?_) | fail)
            first | rintro e w7 A8 c8 rfl hs8 hb7 | rintro e w7 ⟨⟨A8, c8, rfl, hs8⟩, hb7⟩
            rw [← HTL.out]
            have HB7 : Hid (Below N w w7) := HB6.out.trans (hb7.mono (by have := HB6.out.size; have := HNE.out; omega))
            have HSM := Lib.hid (psame_any A' A8 cap' c8 T T w7 (by have := HL20.out; rw [HTL.out]; omega) (by have := HL20.out; rw [HTL.out]; omega) (HS6.out.keep hb7) hs8)
            clear hs8 hb7 HED HS6 HB6
            go_wp2_with (first | (go_at_call 54; refine HSM.out.mono ?_) | fail)
            first | rintro e w8 rfl n rfl | rintro e w8 ⟨rfl, n, rfl⟩
            have hfin := below_drewN HB7.out n
            have e1 : decide (T = T) = true := by simp
            go_wp2
            go_ret
            exact ⟨by simp, hfin⟩
          · exact absurd HOK.out hno
        · have hk1 : (k != 0) = true := by simpa using hk
          have hfin := HB5.out
          go_wp2
          go_ret
          exact ⟨by simp, hfin⟩
end Go.Proofs.Ytdmpbbgcifodeaa
