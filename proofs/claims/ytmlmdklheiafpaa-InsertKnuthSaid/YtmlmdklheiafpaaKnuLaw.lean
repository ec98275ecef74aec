/-
  InsertKnuth: the law, walked.
-/
import Derived.Test.YtmlmdklheiafpaaKnu4W
import Derived.Test.YtmlmdklheiafpaaTabl7W
namespace Go.Proofs.Ytmlmdklheiafpaa
open Go.RowKit

theorem pick_anyB (x : Int) (n : Nat) (w : World) (hn : 0 < n) (hn2 : n ≤ 1000000) (h1 : -9223372036854775808 ≤ x) (h2 : x ≤ 9223372036854775807) :
    Calls Try.prog 36 #[.int .i64 x, .int .i64 n] w fun e w' => (∃ k : Nat, k < n ∧ e = .returned (.int .i64 k)) ∧ w = w' := by
  have key : ∀ y : Int, 0 ≤ y → ∃ k : Nat, k < n ∧ y.tmod (n : Int) = k := fun y hy => by
    have a1 := Int.emod_nonneg y (b := (n : Int)) (by omega)
    have a2 := Int.emod_lt_of_pos y (b := (n : Int)) (by omega)
    exact ⟨(y % (n : Int)).toNat, by omega, by rw [Int.tmod_eq_emod_of_nonneg hy]; omega⟩
  go_enter Try.func36, Try.ntmps36
  by_cases hx : x < 0
  · have hd : decide (x < 0) = true := decide_eq_true hx
    obtain ⟨k, hk, he⟩ := key (-(x + 1)) (by omega)
    clear key
    go_wp2
    go_ret
    exact ⟨⟨k, hk, rfl⟩, rfl⟩
  · have hd : decide (x < 0) = false := decide_eq_false hx
    obtain ⟨k, hk, he⟩ := key x (by omega)
    clear key
    go_wp2
    go_ret
    exact ⟨⟨k, hk, rfl⟩, rfl⟩
theorem clo_any (Ax C : Option Addr) (cx cap b0 : Nat) (x ys : List Int) (w : World) (hx : x.length ≤ 9223372036854775807) (hy : ys.length ≤ 9223372036854775807) (h : Sl w w.heap.size Ax (ints x)) (h2 : Sl w w.heap.size C (ints ys)) (hc : w.cell? ⟨b0, 0, none⟩ = some (.slice C ys.length cap)) :
    Calls Try.prog 47 #[.slice Ax x.length cx, .pointer (some ⟨b0, 0, none⟩)] w fun e w' => e = .returned (.bool (decide (x = ys))) ∧ ∃ n, w' = w.drewN n := by
  have hs := same_anyA Ax C cx cap x ys w hx hy h h2
  have HS := Lib.hid hs
  clear hs h h2
  go_enter Try.func47, Try.ntmps47
  go_wp2_with (first | (go_at_call 15; refine (HS.out).mono ?_) | fail)
  rintro e w2 ⟨rfl, n, rfl⟩
  go_wp2
  go_ret
  exact ⟨rfl, n, rfl⟩
set_option maxRecDepth 100000 in
set_option maxHeartbeats 1000000 in
theorem idx_any (A C : Option Addr) (cap cap2 b0 : Nat) (rows : List (List Int)) (ys : List Int) (w : World) (hr : rows.length ≤ 1000000) (hy : ys.length ≤ 9223372036854775807) (h : SR w w.heap.size A rows) (h2 : Sl w w.heap.size C (ints ys)) (hc : w.cell? ⟨b0, 0, none⟩ = some (.slice C ys.length cap2)) :
    Calls Try.prog 72 #[.slice A rows.length cap, .func (.func 47) #[] #[.pointer (some ⟨b0, 0, none⟩)]] w fun e w' => (∃ k : Int, e = .returned (.int .i64 k) ∧ (ys ∈ rows → 0 ≤ k)) ∧ ∃ d, w' = w.drewN d := by
  have H := Lib.hid h
  have H2 := Lib.hid h2
  have HC := Lib.hid hc
  clear h h2 hc
  go_enter Try.func72, Try.ntmps72
  go_wp2
  go_loopw [8] (fun iv wr => ∃ i : Nat, i ≤ rows.length ∧ iv = .int .i64 i ∧ (∀ j, j < i → rows.getD j [] ≠ ys) ∧ ∃ d, wr = w.drewN d) (fun iv _ => rows.length - (intOf iv).toNat)
  case atStart => exact ⟨0, Nat.zero_le _, rfl, fun j hj => by omega, 0, rfl⟩
  case round =>
    obtain ⟨i, hi, rfl, hall, d, rfl⟩ := hrel
    have HALL := Lib.hid hall
    clear hall
    by_cases hlt : i < rows.length
    · have di : decide (i < rows.length) = true := decide_eq_true hlt
      obtain ⟨b, o, rfl, hb⟩ := H.out.addr (by omega)
      obtain ⟨Ar, cr, hcr, hsr, hlr⟩ := H.out.at_ hlt
      obtain ⟨x, hx⟩ : ∃ x, x = rows.getD i [] := ⟨_, rfl⟩
      rw [← hx] at hcr hsr hlr
      have hcl := clo_any Ar C cr cap2 b0 x ys (w.drewN d) hlr hy hsr H2.out HC.out
      have HCL := Lib.hid hcl
      have HX := Lib.hid hx
      clear hx hsr hlr hcl
      by_cases hxy : x = ys
      · have dx : Hid (decide (x = ys) = true) := decide_eq_true hxy
        clear hxy
        go_wp2_with (first | (go_at_call 47; refine (HCL.out).mono ?_) | fail)
        rintro e w2 ⟨rfl, n, rfl⟩
        rw [dx.out]
        go_wp2
        go_ret
        exact ⟨⟨_, rfl, fun _ => by omega⟩, _, rfl⟩
      · have dx : Hid (decide (x = ys) = false) := decide_eq_false hxy
        have HN := Lib.hid hxy
        clear hxy
        go_wp2_with (first | (go_at_call 47; refine (HCL.out).mono ?_) | fail)
        rintro e w2 ⟨rfl, n, rfl⟩
        rw [dx.out]
        go_wp2
        go_roundw
        case rel =>
          refine ⟨i + 1, by omega, by go_num, fun j hj => ?_, _, rfl⟩
          by_cases e : j = i
          · rw [e, ← HX.out]; exact HN.out
          · exact HALL.out j (by omega)
        case measure => simp [intOf]; omega
    · have di : decide (i < rows.length) = false := decide_eq_false hlt
      have hno : Hid (ys ∉ rows) := Lib.hid fun hm => by
        obtain ⟨j, hj, e⟩ := List.getElem_of_mem hm
        exact HALL.out j (by omega) (by rw [getD_get hj]; exact e)
      go_wp2
      go_ret
      exact ⟨⟨_, rfl, fun hm => absurd hm hno.out⟩, _, rfl⟩
theorem has_any (A C : Option Addr) (cap cap2 b0 : Nat) (rows : List (List Int)) (ys : List Int) (w : World) (hr : rows.length ≤ 1000000) (hy : ys.length ≤ 9223372036854775807) (h : SR w w.heap.size A rows) (h2 : Sl w w.heap.size C (ints ys)) (hc : w.cell? ⟨b0, 0, none⟩ = some (.slice C ys.length cap2)) (hm : ys ∈ rows) :
    Calls Try.prog 46 #[.slice A rows.length cap, .func (.func 47) #[] #[.pointer (some ⟨b0, 0, none⟩)]] w fun e w' => e = .returned (.bool true) ∧ ∃ d, w' = w.drewN d := by
  have hx := (idx_any A C cap cap2 b0 rows ys w hr hy h h2 hc)
  have HX := Lib.hid hx
  have HM := Lib.hid hm
  clear hx h h2 hc hm
  go_enter Try.func46, Try.ntmps46
  go_wp2_with (first | (go_at_call 72; refine (HX.out).mono ?_) | fail)
  rintro e w2 ⟨⟨k, rfl, hk⟩, d, rfl⟩
  have hk0 := hk HM.out
  have dk : decide (0 ≤ k) = true := decide_eq_true hk0
  clear hk
  go_wp2
  go_ret
  exact ⟨rfl, d, rfl⟩
theorem lit_moves {rows : List (List Int)} (h1 : rows.Nodup) (h2 : ∀ u, u ∈ rows ↔ KStep [1, 3, 2] u) : rows = [[3, 1, 2]] := by
  have h3 : ∀ u, u ∈ rows ↔ u = [3, 1, 2] := fun u => by
    rw [h2 u, ← mem_mvs]
    have e : mvs [1, 3, 2] 1 = [[3, 1, 2]] := by decide
    show u ∈ mvs [1, 3, 2] 1 ↔ _
    rw [e, List.mem_singleton]
  match rows, h1, h3 with
  | [], _, h3 => exact absurd ((h3 [3, 1, 2]).2 rfl) (by simp)
  | [x], _, h3 => rw [(h3 x).1 (List.mem_singleton.2 rfl)]
  | x :: y :: t, h1, h3 =>
    have e1 := (h3 x).1 (by simp)
    have e2 := (h3 y).1 (by simp)
    rw [e1, e2] at h1
    simp at h1

def MvO (e : Ending) (w' : World) (xs : List Int) : Prop := ∃ (k : Int) (A : Option Addr) (c : Nat) (rows : List (List Int)), e = .returned (.tuple #[.slice A rows.length c, .int .i64 k]) ∧ SR w' w'.heap.size A rows ∧ k = wordChk xs ∧ (k = 0 → rows.Nodup ∧ ∀ u, u ∈ rows ↔ KStep xs u) ∧ (k ≠ 0 → rows = []) ∧ rows.length ≤ 80
theorem mvo_any (A : Option Addr) (cap : Nat) (xs : List Int) (w : World) (hcl : xs.length ≤ 9223372036854775807) (h : Sl w w.heap.size A (ints xs)) :
    Calls Try.prog 45 #[.slice A xs.length cap] w fun e w' => MvO e w' xs ∧ Below w.heap.size w w' :=
  (moves_any A cap xs w hcl h).mono (fun e w' ⟨⟨k, v, hs, rows, h1, h2, h3, h4, h5, h6⟩, hb⟩ => by
    obtain ⟨A', c', rfl, hsr, _, _⟩ := h2.sr
    exact ⟨⟨k, A', c', rows, h1, hsr, h3, h4, h5, h6⟩, hb⟩)
set_option maxRecDepth 100000 in
set_option maxHeartbeats 4000000 in
theorem knuth_law (A : Option Addr) (cap : Nat) (xs : List Int) (z : Int) (w : World) (hcl : xs.length ≤ 9223372036854775807) (h : Sl w w.heap.size A (ints xs)) (hz1 : -9223372036854775808 ≤ z) (hz2 : z ≤ 9223372036854775807) :
    Calls Try.prog 11 #[.slice A xs.length cap, .int .i64 z] w fun e w' => e = .returned (.bool true) ∧ Below w.heap.size w w' := by
  obtain ⟨w0, hw0⟩ : ∃ w0, w0 = w.alloc (.cells #[.slice A xs.length cap] 22) := ⟨_, rfl⟩
  have hb0 : Below w.heap.size w w0 := by rw [hw0]; exact (Below.refl _ _).alloc (Nat.le_refl _) _
  have hc0 : w0.cell? ⟨w.heap.size, 0, none⟩ = some (.slice A xs.length cap) := by rw [hw0, World.cell?_alloc_at _ _ _ _ rfl]; rfl
  have hz0 : w0.heap.size = w.heap.size + 1 := by rw [hw0]; simp
  have hs0 : Sl w0 w0.heap.size A (ints xs) := (h.below hb0).more (by omega)
  have hm1 := mvo_any (some ⟨w0.heap.size, 0, none⟩) 3 [1, 3, 2] (w0.alloc (.cells (ints [1, 3, 2]).toArray 3)) (by simp) (sl_litA w0 (ints [1, 3, 2]) _ (by simp))
  have HM1 := Lib.hid hm1
  have HS := Lib.hid hs0
  have HB0 := Lib.hid hb0
  have HC0 := Lib.hid hc0
  have HZ0 := Lib.hid hz0
  clear h hb0 hc0 hz0 hs0 hm1
  go_enter Try.func11, Try.ntmps11
  go_upto_region 1 with fail
  rw [← hw0]
  clear hw0
  have hB := Nat.le_refl w0.heap.size
  go_wp2_with (first | (go_at_call 45; refine (HM1.out).mono ?_) | fail)
  rintro e w1 ⟨⟨k1, A1, c1, rows, rfl, hs1, hk1, hz1', _, _⟩, hb1⟩
  have hk10 : k1 = 0 := hk1.trans (by decide)
  subst hk10
  have hrows := lit_moves (hz1' rfl).1 (hz1' rfl).2
  subst hrows
  have hW1 : Below w0.heap.size w0 w1 := below_call ((Below.refl _ _).alloc hB _) hB hb1
  obtain ⟨b1, o1, rfl, hbl⟩ := hs1.addr (by simp)
  obtain ⟨Ar, cr, hcr, hsr, hlr⟩ := hs1.at_ (r := 0) (by simp)
  have hcr0 : w1.cell? ⟨b1, o1, none⟩ = some (.slice Ar 3 cr) := hcr
  have hlit : Below w1.heap.size w1 (w1.alloc (.cells (ints [3, 1, 2]).toArray 3)) := (Below.refl _ _).alloc (Nat.le_refl _) _
  have hsm := same_bA Ar (some ⟨w1.heap.size, 0, none⟩) cr 3 [3, 1, 2] [3, 1, 2] (w1.alloc (.cells (ints [3, 1, 2]).toArray 3)) (by simp) (by simp) (Sl.keep (show Sl w1 w1.heap.size Ar (ints [3, 1, 2]) from hsr) hlit) (sl_litA w1 (ints [3, 1, 2]) _ (by simp))
  have HSM := Lib.hid hsm
  have HW1 := Lib.hid hW1
  have dlit : Hid (decide (([3, 1, 2] : List Int) = [3, 1, 2]) = true) := by show _ = _; decide
  clear hz1' hk1 hb1 hcr hsr hlr hs1 hsm HM1 hlit hW1
  go_wp2_with (first | (go_at_call 15; refine (HSM.out).mono ?_) | fail)
  rintro e w2 ⟨rfl, hb2⟩
  rw [dlit.out]
  have hW2 : Below w0.heap.size w0 w2 := below_call ((HW1.out.alloc HW1.out.size _)) hB hb2
  have hc2 : w2.cell? ⟨w.heap.size, 0, none⟩ = some (.slice A xs.length cap) := (hW2.cell (p := ⟨w.heap.size, 0, none⟩) (show w.heap.size < w0.heap.size by have := HZ0.out; omega)).trans HC0.out
  have hm2 := mvo_any A cap xs w2 hcl (HS.out.keep hW2)
  have HM2 := Lib.hid hm2
  clear hb2 HSM HW1 hcr0 hbl hm2
  go_wp2_with (first | (go_at_call 45; refine (HM2.out).mono ?_) | fail)
  rintro e w3 ⟨⟨k3, A3, c3, R, rfl, hs3, hk3, hz3, hn3, hl3⟩, hb3⟩
  have hW3 : Below w0.heap.size w0 w3 := below_call hW2 hB hb3
  have HW3 := Lib.hid hW3
  by_cases hk30 : k3 = 0
  · subst hk30
    have hc3 : w3.cell? ⟨w.heap.size, 0, none⟩ = some (.slice A xs.length cap) := (hW3.cell (p := ⟨w.heap.size, 0, none⟩) (show w.heap.size < w0.heap.size by have := HZ0.out; omega)).trans HC0.out
    have hmk := make_any A cap xs w3 hcl (HS.out.keep hW3)
    have HMK := Lib.hid hmk
    have HS3 := Lib.hid hs3
    have HK3 := Lib.hid hk3
    have HZ3 := Lib.hid (hz3 rfl)
    clear hs3 hk3 hz3 hn3 hb3 hW3 hW2 hc2 HM2 hmk
    go_wp2_with (first | (go_at_call 37; refine (HMK.out).mono ?_) | fail)
    rintro e w4 ⟨⟨k4, A4, A4', c4, c4', P, Q, rfl, hs4, _, hp4, _, hk4, hz4, _⟩, hb4⟩
    have hk40 : k4 = 0 := hk4.trans HK3.out.symm
    subst hk40
    have hP := (hz4 rfl).1
    have hW4 : Below w0.heap.size w0 w4 := below_call HW3.out hB hb4
    have hr4 := HS3.out.keep hb4
    have HS4 := Lib.hid hs4
    have HP4 := Lib.hid hP
    have HL4 := Lib.hid hp4
    have HW4 := Lib.hid hW4
    clear hk4 hz4 hb4 hP hs4 HMK HS3 HW3 hc3 hp4 hW4
    by_cases hR : R.length = 0
    · have dR : ((R.length : Int) == 0) = true := by simp [hR]
      have hfin := HB0.out.trans (HW4.out.mono HB0.out.size)
      have dR2 : decide ((R.length : Int) = 0) = true := decide_eq_true (by omega)
      go_wp2
      go_ret
      exact ⟨rfl, hfin⟩
    · have dR : ((R.length : Int) == 0) = false := beq_eq_false_iff_ne.2 (by omega)
      have dR2 : decide ((R.length : Int) = 0) = false := decide_eq_false (by omega)
      have hpk := pick_anyB z R.length w4 (by omega) (by omega) hz1 hz2
      have HPK := Lib.hid hpk
      have HR4 := Lib.hid hr4
      clear hr4 hpk
      go_wp2_with (first | (go_at_call 36; refine (HPK.out).mono ?_; rintro e w5 ⟨⟨q, hq, rfl⟩, rfl⟩; obtain ⟨b4, o4, rfl, hbl4⟩ := HR4.out.addr (by omega); obtain ⟨Av, cv, hcv, hsv, hlv⟩ := HR4.out.at_ hq; obtain ⟨u, hu⟩ : ∃ u, u = R.getD q [] := ⟨_, rfl⟩; rw [← hu] at hcv hsv hlv; have HU := Lib.hid hu; have HSV := Lib.hid hsv; have HLV := Lib.hid hlv; clear hu hsv hlv) | fail)
      have hst : KStep xs u := (HZ3.out.2 u).1 (by rw [HU.out, getD_get hq]; exact List.getElem_mem hq)
      have hchk : wordChk u = 0 := hst.chk.trans HK3.out.symm
      have hne : u ≠ xs := hst.ne
      have hins : insW [] xs = insW [] u := insW_Kn hst.kn (fun r hr => by cases hr)
      have HST := Lib.hid hst
      have HCHK := Lib.hid hchk
      have HINS := Lib.hid hins
      have HNE := Lib.hid hne
      clear hst hchk hins hne hcv HR4 HPK HK3
      refine (make_any Av cv u w4 HLV.out HSV.out).mono ?_
      rintro e w5 ⟨⟨k5, A5, A5', c5, c5', P5, Q5, rfl, hs5, _, hp5, _, hk5, hz5, _⟩, hb5⟩
      have hk50 : k5 = 0 := hk5.trans HCHK.out
      subst hk50
      have hP5 : P = P5 := by rw [HP4.out, (hz5 rfl).1]; exact HINS.out
      subst hP5
      have hW5 : Below w0.heap.size w0 w5 := below_call HW4.out hB hb5
      have hm6 := mvo_any Av cv u w5 HLV.out (HSV.out.keep hb5)
      have HM6 := Lib.hid hm6
      have HS4' := Lib.hid (HS4.out.keep hb5)
      have HS5 := Lib.hid hs5
      have HSV5 := Lib.hid (HSV.out.keep hb5)
      have HW5 := Lib.hid hW5
      clear hk5 hz5 hs5 hp5 hb5 hW5 hm6 HS4 HSV HW4 HP4 HINS
      go_wp2_with (first | (go_at_call 45; refine (HM6.out).mono ?_) | fail)
      rintro e w6 ⟨⟨k6, A6, c6, R6, rfl, hs6, hk6, hz6, _, hl6⟩, hb6⟩
      have hk60 : k6 = 0 := hk6.trans HCHK.out
      subst hk60
      have hxm : xs ∈ R6 := ((hz6 rfl).2 xs).2 HST.out.symm
      have hW6 : Below w0.heap.size w0 w6 := below_call HW5.out hB hb6
      have hrw := rows_any A4 A5 c4 c5 P P w6 HL4.out HL4.out (HS4'.out.keep hb6) (HS5.out.keep hb6)
      have HRW := Lib.hid hrw
      have HSV6 := Lib.hid (HSV5.out.keep hb6)
      have HS6 := Lib.hid hs6
      have HXM := Lib.hid hxm
      have HW6 := Lib.hid hW6
      have dP : Hid (decide (P = P) = true) := decide_eq_true rfl
      clear hk6 hz6 hs6 hb6 hxm hW6 hrw HS4' HS5 HSV5 HW5 HM6
      go_wp2_with (first | (go_at_call 31; refine (HRW.out).mono ?_) | fail)
      rintro e w7 ⟨rfl, hb7⟩
      rw [dP.out]
      have hW7 : Below w0.heap.size w0 w7 := below_call HW6.out hB hb7
      have hc7 : w7.cell? ⟨w.heap.size, 0, none⟩ = some (.slice A xs.length cap) := (hW7.cell (p := ⟨w.heap.size, 0, none⟩) (show w.heap.size < w0.heap.size by have := HZ0.out; omega)).trans HC0.out
      have hsm := same_bA Av A cv cap u xs w7 HLV.out hcl (HSV6.out.keep hb7) (HS.out.keep hW7)
      have HSM7 := Lib.hid hsm
      have HS7 := Lib.hid (HS6.out.keep hb7)
      have HW7 := Lib.hid hW7
      have dU : Hid (decide (u = xs) = false) := decide_eq_false HNE.out
      clear hb7 hW7 hsm HSV6 HS6 HW6 HRW
      go_wp2_with (first | (go_at_call 15; refine (HSM7.out).mono ?_) | fail)
      rintro e w8 ⟨rfl, hb8⟩
      rw [dU.out]
      have hW8 : Below w0.heap.size w0 w8 := below_call HW7.out hB hb8
      have hc8 : w8.cell? ⟨w.heap.size, 0, none⟩ = some (.slice A xs.length cap) := (hW8.cell (p := ⟨w.heap.size, 0, none⟩) (show w.heap.size < w0.heap.size by have := HZ0.out; omega)).trans HC0.out
      have hh := has_any A6 A c6 cap w.heap.size R6 xs w8 (by omega) hcl (HS7.out.keep hb8) (HS.out.keep hW8) hc8 HXM.out
      have HH := Lib.hid hh
      have HW8 := Lib.hid hW8
      clear hb8 hW8 hc8 hc7 hh HS7 HW7 HSM7
      go_wp2_with (first | (go_at_call 46; refine (HH.out).mono ?_) | fail)
      rintro e w9 ⟨rfl, d, rfl⟩
      have hfin := below_drewN (HB0.out.trans (HW8.out.mono HB0.out.size)) d
      go_wp2
      go_ret
      exact ⟨rfl, hfin⟩
  · have dk : (k3 != 0) = true := by simpa using hk30
    have hr0 := hn3 hk30
    subst hr0
    have hfin := HB0.out.trans (HW3.out.mono HB0.out.size)
    clear hz3 hn3 hk3 hb3
    go_wp2
    go_ret
    exact ⟨rfl, hfin⟩
end Go.Proofs.Ytmlmdklheiafpaa
