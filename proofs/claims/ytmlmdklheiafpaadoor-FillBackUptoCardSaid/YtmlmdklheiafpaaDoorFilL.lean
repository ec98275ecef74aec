/-
  ferkeep.FillBack: what it answers.
-/
import Derived.Test.YtmlmdklheiafpaaDoorFConW
import Derived.Test.YtmlmdklheiafpaaDoorFShaW
import Derived.Test.YtmlmdklheiafpaaDoorWriW
import Derived.Test.YtmlmdklheiafpaaDoorStdW
import Derived.Test.YtmlmdklheiafpaaDoorRdW
import Derived.Test.YtmlmdklheiafpaaDoorTurM
import Derived.Test.YtmlmdklheiafpaaDoorFTurW
import Derived.Test.YtmlmdklheiafpaaDoorFilP
import Derived.Test.YtmlmdklheiafpaaDoorRowsA
import Derived.Test.YtmlmdklheiafpaaDoorShaA
namespace Go.Proofs.YtmlmdklheiafpaaDoor
open Go.RowKit Go.Proofs Fil Std1

theorem RdOut.good {T : List (List Int)} (hok : FillOk T) {B : Nat} {e : Ending} {w' : World} (h : RdOut (txt T) B e w') : ∃ A c hs, e = .returned (.tuple #[.slice A T.length c, .agg #[.int .i64 0, .int .i64 0]]) ∧ OwnM w' B (.slice A T.length c) hs T := by
  rcases h with ⟨a, v, hs, rfl, hd, _, hm⟩ | ⟨h | ⟨a, hd, hn⟩, _⟩
  · obtain rfl := good_done hok.good hd
    obtain ⟨A, c, rfl, _⟩ := hm.sr
    exact ⟨A, c, hs, rfl, hm⟩
  · exact absurd h (good_not_stuck hok.good)
  · obtain rfl := good_done hok.good hd
    exact absurd hok hn
theorem rows_true (A A' : Option Addr) (cap cap' : Nat) (xs : List (List Int)) (w : World) (hx : xs.length ≤ 9223372036854775807) (h : SR w w.heap.size A xs) (h' : SR w w.heap.size A' xs) :
    Calls Tryd.prog 9 #[.slice A xs.length cap, .slice A' xs.length cap'] w fun e w' => e = .returned (.bool true) ∧ Below w.heap.size w w' := by
  refine (rows_any A A' cap cap' xs xs w hx hx h h').mono ?_
  rintro e w' ⟨rfl, hb⟩
  exact ⟨by simp, hb⟩
theorem same_true (A A' : Option Addr) (cap cap' : Nat) (xs : List Int) (w : World) (hx : xs.length ≤ 9223372036854775807) (h : Sl w w.heap.size A (ints xs)) (h' : Sl w w.heap.size A' (ints xs)) :
    Calls Tryd.prog 10 #[.slice A xs.length cap, .slice A' xs.length cap'] w fun e w' => e = .returned (.bool true) ∧ Below w.heap.size w w' := by
  refine (same_anyA A A' cap cap' xs xs w hx hx h h').mono ?_
  rintro e w' ⟨rfl, n, rfl⟩
  exact ⟨by simp, below_drewN (Below.refl _ _) n⟩
set_option maxRecDepth 100000 in
set_option maxHeartbeats 8000000 in
theorem law_any (A : Option Addr) (cap : Nat) (T : List (List Int)) (S : List UInt8) (w : World) (hT : T.length ≤ 9223372036854775807) (hS : S.length ≤ 1048576) (h : SR w w.heap.size A T) :
    Calls Tryd.prog 3 #[.slice A T.length cap, .string ⟨S.toArray⟩] w fun e w' => e = .returned (.bool true) ∧ Below w.heap.size w w' := by
  have HH := Lib.hid h
  have HRC : Hid (Calls Tryd.prog 4 #[.string ⟨#[49, 32, 49, 32, 50, 47, 50, 32, 51]⟩] w fun e w' => (∃ A c hs, e = .returned (.tuple #[.slice A 2 c, .agg #[.int .i64 0, .int .i64 0]]) ∧ OwnM w' w.heap.size (.slice A 2 c) hs [[1, 1, 2], [2, 3]]) ∧ Below w.heap.size w w') := by
    show Calls _ _ _ _ _
    have h0 := read_any (txt [[1, 1, 2], [2, 3]]) w (by rw [one_txt]; decide)
    have e0 : (ByteArray.mk (txt [[1, 1, 2], [2, 3]]).toArray) = ⟨#[49, 32, 49, 32, 50, 47, 50, 32, 51]⟩ := by rw [one_txt]
    rw [e0] at h0
    exact h0.mono (fun e w' hh => ⟨hh.1.good one_ok, hh.2⟩)
  clear h
  go_enter Tryd.func3, Tryd.ntmps3
  go_upto_region 2 with (first | (go_at_call 4; refine HRC.out.mono ?_) | fail)
  rintro e w1 ⟨⟨A1, c1, hs1, rfl, hm1⟩, hb1⟩
  go_upto_region 2 with fail
  obtain ⟨w2, hw2⟩ : ∃ w2, w2 = w1.alloc (.cells #[.int .i64 0, .int .i64 0] 25) := ⟨_, rfl⟩
  rw [← hw2]
  have cz : w2.cell? ⟨w1.heap.size, 0, none⟩ = some (.int .i64 0) := by rw [hw2, World.cell?_alloc_at _ _ _ _ rfl]; rfl
  have hW2 : Below w.heap.size w w2 := by rw [hw2]; exact hb1.alloc hb1.size _
  have hS2 := HH.out.keep hW2
  clear hw2 hb1 hm1
  go_upto_region 4 with fail
  clear cz
  go_cut [7, 8] (fun av pv wz => ∃ (P : Nat) (k : Int), pv = .pointer (some ⟨P, 0, none⟩) ∧ wz.cell? ⟨P, 0, none⟩ = some (.int .i64 k) ∧ Below w.heap.size w wz ∧ (k = 0 → ∃ (a : List (List Int)) (A : Option Addr) (c : Nat), av = .slice A a.length c ∧ SR wz wz.heap.size A a ∧ Done S a ∧ FillOk a))
  case first =>
    have HRD := Lib.hid (read_any S w2 hS)
    go_wp2_with (first | (go_at_call 4; refine HRD.out.mono ?_) | fail)
    rintro e w3 ⟨hrd, hb3⟩
    have hW3 : Below w.heap.size w w3 := hW2.trans (hb3.mono hW2.size)
    rcases hrd with ⟨a, v, hs, rfl, hd, hok, hm⟩ | ⟨_, k, z, hk, rfl⟩
    · obtain ⟨A3, c3, rfl, hsr, _, _⟩ := hm.sr
      have HF : Hid (SR (w3.alloc (.cells #[.int .i64 0, .int .i64 0] 25)) (w3.alloc (.cells #[.int .i64 0, .int .i64 0] 25)).heap.size A3 a ∧ Below w.heap.size w (w3.alloc (.cells #[.int .i64 0, .int .i64 0] 25)) ∧ Done S a ∧ FillOk a) :=
        ⟨hsr.keep ((Below.refl _ _).alloc (Nat.le_refl _) _), hW3.alloc hW3.size _, hd, hok⟩
      clear hsr hW3 hd hok hm hb3 hW2 HRD hS2
      go_wp2
      go_meet
      exact ⟨_, 0, rfl, by rw [World.cell?_alloc_at _ _ _ _ rfl]; rfl, HF.out.2.1, fun _ => ⟨a, A3, c3, rfl, HF.out.1, HF.out.2.2⟩⟩
    · have HF : Hid (Below w.heap.size w (w3.alloc (.cells #[.int .i64 k, .int .i64 z] 25)) ∧ k ≠ 0) :=
        ⟨hW3.alloc hW3.size _, hk⟩
      clear hW3 hk hb3 hW2 HRD hS2
      go_wp2
      go_meet
      exact ⟨_, k, rfl, by rw [World.cell?_alloc_at _ _ _ _ rfl]; rfl, HF.out.1, fun e => absurd e HF.out.2⟩
  case rest =>
    obtain ⟨P, k, rfl, hck, hW3, hk⟩ := hcut
    have HK := Lib.hid hk
    clear hk hW2 hS2
    go_upto_if 48 with fail
    go_cut [9, 10] (fun _ _ wz => Below w.heap.size w wz)
    case first =>
      by_cases hk0 : k = 0
      · have d0 : (k == 0) = true := by simpa using hk0
        obtain ⟨a, Aa, ca, rfl, hsr, hd, hok⟩ := HK.out hk0
        have hdt := hd.txt
        have hal : a.length ≤ 9223372036854775807 := by have := hok.small.1; omega
        have HSR := Lib.hid hsr
        have HW3 := Lib.hid hW3
        have HWR : Hid (Calls Tryd.prog 5 #[.slice Aa a.length ca] wc fun e w' => e = .returned (.tuple #[.string ⟨S.toArray⟩, .int .i64 0]) ∧ wc = w') := by
          show Calls _ _ _ _ _
          refine (write_any Aa ca a wc hal hsr).mono ?_
          rintro e w' ⟨⟨_, rfl⟩ | ⟨h, _⟩, rfl⟩
          · exact ⟨by rw [hdt], rfl⟩
          · exact absurd hok h
        clear hk0 hsr hd hok hdt hal hW3
        go_wp2_with (first | (go_at_call 5; refine HWR.out.mono ?_) | fail)
        rintro e w4 ⟨rfl, rfl⟩
        go_wp2
        go_meet
        exact HW3.out
      · have d0 : (k == 0) = false := by simpa using hk0
        go_wp2
        go_meet
        exact hW3
    case rest =>
      obtain ⟨w4, rfl⟩ : ∃ w4, w4 = wc := ⟨_, rfl⟩
      have hW4 := hcut
      clear hck hW3 HK hcut
      have hS4 := HH.out.keep hW4
      have hwr := write_any A cap T w4 hT hS4
      by_cases hok : FillOk T
      · have HOK := Lib.hid hok
        have HWR : Hid (Calls Tryd.prog 5 #[.slice A T.length cap] w4 fun e w' => e = .returned (.tuple #[.string ⟨(txt T).toArray⟩, .int .i64 0]) ∧ w4 = w') := by
          show Calls _ _ _ _ _
          refine hwr.mono ?_
          rintro e w' ⟨⟨_, rfl⟩ | ⟨h, _⟩, rfl⟩
          · exact ⟨rfl, rfl⟩
          · exact absurd hok h
        have HRD : Hid (Calls Tryd.prog 4 #[.string ⟨(txt T).toArray⟩] w4 fun e w' => (∃ A c hs, e = .returned (.tuple #[.slice A T.length c, .agg #[.int .i64 0, .int .i64 0]]) ∧ OwnM w' w4.heap.size (.slice A T.length c) hs T) ∧ Below w4.heap.size w4 w') := by
          show Calls _ _ _ _ _
          exact (read_any (txt T) w4 (by have := txt_small hok; omega)).mono (fun e w' hh => ⟨hh.1.good hok, hh.2⟩)
        obtain ⟨X, hX⟩ : ∃ X, X = txt T := ⟨_, rfl⟩
        rw [← hX] at HWR HRD
        clear hwr hok hX
        go_wp2_with (first | (go_at_call 5; refine HWR.out.mono ?_) | fail)
        rintro e w5 ⟨rfl, rfl⟩
        go_upto_region 12 with fail
        go_wp2_with (first | (go_at_call 4; refine HRD.out.mono ?_) | fail)
        rintro e w5 ⟨⟨A5, c5, hs5, rfl, hm5⟩, hb5⟩
        go_upto_region 13 with fail
        have hl5 := hm5.sr
        obtain ⟨A', c', e', hsr5, _, _⟩ := hl5
        obtain ⟨rfl, rfl⟩ : A5 = A' ∧ c5 = c' := by injection e' with h1 _ h2; exact ⟨h1, h2⟩
        obtain ⟨w6, hw6⟩ : ∃ w6, w6 = w5.alloc (.cells #[.int .i64 0, .int .i64 0] 25) := ⟨_, rfl⟩
        rw [← hw6]
        obtain ⟨P5, hP5⟩ : ∃ P5, P5 = w5.heap.size := ⟨_, rfl⟩
        rw [← hP5]
        have hb6 : Below w5.heap.size w5 w6 := by rw [hw6]; exact (Below.refl _ _).alloc (Nat.le_refl _) _
        have hW6 : Below w.heap.size w w6 := (hW4.trans (hb5.mono hW4.size)).trans (hb6.mono (Nat.le_trans hW4.size hb5.size))
        have hp5 : P5 < w6.heap.size := by rw [hw6, hP5]; simp
        have cz : w6.cell? ⟨P5, 0, none⟩ = some (.int .i64 0) := by rw [hw6, hP5, World.cell?_alloc_at _ _ _ _ rfl]; rfl
        have HA6 := Lib.hid (hsr5.keep hb6)
        have HCZ := Lib.hid cz
        have HP5 := Lib.hid hp5
        have hS6 := HH.out.keep hW6
        obtain ⟨U, hU⟩ : ∃ U, U = std T := ⟨_, rfl⟩
        have HSTD : Hid (Calls Tryd.prog 6 #[.slice A T.length cap] w6 fun e w' => (∃ A c hs, e = .returned (.tuple #[.slice A U.length c, .int .i64 0]) ∧ OwnM w' w6.heap.size (.slice A U.length c) hs U) ∧ Below w6.heap.size w6 w') := by
          show Calls _ _ _ _ _
          refine (std_any A cap T w6 hT hS6).mono ?_
          rintro e w' ⟨⟨_, v, hs, rfl, hm⟩ | ⟨h, _⟩, hb⟩
          · obtain ⟨A, c, rfl, _⟩ := hm.sr
            rw [← hU] at hm ⊢
            exact ⟨⟨A, c, hs, rfl, hm⟩, hb⟩
          · exact absurd HOK.out h
        have HUok : Hid (FillOk U) := by show FillOk U; rw [hU]; exact HOK.out.std
        have HUp : Hid (IsPerm U.flatten) := by show IsPerm _; rw [hU]; exact HOK.out.std_isPerm
        have HUs : Hid (std U = U) := by show _ = _; rw [hU]; exact HOK.out.std_twice
        have HUl : Hid (lensOf U = lensOf T) := by
          show _ = _
          rw [hU]; unfold lensOf
          have := congrArg (List.map (fun n : Nat => (n : Int))) (std_lens T)
          rw [List.map_map, List.map_map] at this; exact this
        have hUl : U.length ≤ 9223372036854775807 := by have := HUok.out.small.1; omega
        clear hw6 hP5 hb6 hb5 hm5 hsr5 e' hW4 hS4 hU hp5 cz hS6
        go_upto_region 14 with (first | (go_at_call 6; refine HSTD.out.mono ?_) | fail)
        rintro e w7 ⟨⟨A7, c7, hs7, rfl, hm7⟩, hb7⟩
        go_upto_region 14 with fail
        obtain ⟨A', c', e', hsr7, _, _⟩ := hm7.sr
        obtain ⟨rfl, rfl⟩ : A7 = A' ∧ c7 = c' := by injection e' with h1 _ h2; exact ⟨h1, h2⟩
        have hW7 := hW6.trans (hb7.mono hW6.size)
        have HA7 := Lib.hid (HA6.out.keep hb7)
        have HCZ7 : Hid (w7.cell? ⟨P5, 0, none⟩ = some (.int .i64 0)) := (hb7.cell (p := ⟨P5, 0, none⟩) HP5.out).trans HCZ.out
        have HP7 : Hid (P5 < w7.heap.size) := Nat.lt_of_lt_of_le HP5.out hb7.size
        have HS7 := Lib.hid hsr7
        have HST2 : Hid (Calls Tryd.prog 6 #[.slice A7 U.length c7] w7 fun e w' => (∃ A c hs, e = .returned (.tuple #[.slice A U.length c, .int .i64 0]) ∧ OwnM w' w7.heap.size (.slice A U.length c) hs U) ∧ Below w7.heap.size w7 w') := by
          show Calls _ _ _ _ _
          refine (std_any A7 c7 U w7 hUl hsr7).mono ?_
          rintro e w' ⟨⟨_, v, hs, rfl, hm⟩ | ⟨h, _⟩, hb⟩
          · rw [HUs.out] at hm
            obtain ⟨A, c, rfl, _⟩ := hm.sr
            exact ⟨⟨A, c, hs, rfl, hm⟩, hb⟩
          · exact absurd HUok.out h
        clear hm7 e' hb7 hW6 HA6 HCZ HP5 hsr7 HSTD
        go_upto_region 15 with (first | (go_at_call 6; refine HST2.out.mono ?_) | fail)
        rintro e w8 ⟨⟨A8, c8, hs8, rfl, hm8⟩, hb8⟩
        go_upto_region 15 with fail
        obtain ⟨A', c', e', hsr8, _, _⟩ := hm8.sr
        obtain ⟨rfl, rfl⟩ : A8 = A' ∧ c8 = c' := by injection e' with h1 _ h2; exact ⟨h1, h2⟩
        have hW8 := hW7.trans (hb8.mono hW7.size)
        have HA8 := Lib.hid (HA7.out.keep hb8)
        have HCZ8 : Hid (w8.cell? ⟨P5, 0, none⟩ = some (.int .i64 0)) := (hb8.cell (p := ⟨P5, 0, none⟩) HP7.out).trans HCZ7.out
        have HP8 : Hid (P5 < w8.heap.size) := Nat.lt_of_lt_of_le HP7.out hb8.size
        have HB8 := Lib.hid (HS7.out.keep hb8)
        have HC8 := Lib.hid hsr8
        have HISP : Hid (Calls Tryd.prog 7 #[.slice A7 U.length c7] w8 fun e w' => e = .returned (.tuple #[.bool true, .int .i64 0]) ∧ Below w8.heap.size w8 w') := by
          show Calls _ _ _ _ _
          refine (standard_any A7 c7 U w8 hUl HB8.out).mono ?_
          rintro e w' ⟨⟨b, k, rfl, h1, h2, _⟩, hb⟩
          obtain rfl := h2 HUok.out
          obtain rfl := (h1 rfl).2.2 HUp.out
          exact ⟨rfl, hb⟩
        clear hm8 e' hb8 hW7 HA7 HCZ7 HP7 hsr8 HST2 HS7
        go_upto_region 16 with (first | (go_at_call 7; refine HISP.out.mono ?_) | fail)
        rintro e w9 ⟨rfl, hb9⟩
        go_upto_region 16 with fail
        have hW9 := hW8.trans (hb9.mono hW8.size)
        have HA9 := Lib.hid (HA8.out.keep hb9)
        have HB9 := Lib.hid (HB8.out.keep hb9)
        have HC9 := Lib.hid (HC8.out.keep hb9)
        have HCZ9 : Hid (w9.cell? ⟨P5, 0, none⟩ = some (.int .i64 0)) := (hb9.cell (p := ⟨P5, 0, none⟩) HP8.out).trans HCZ8.out
        have HP9 : Hid (P5 < w9.heap.size) := Nat.lt_of_lt_of_le HP8.out hb9.size
        have hS9 := HH.out.keep hW9
        obtain ⟨Y, hY⟩ : ∃ Y, Y = lensOf T := ⟨_, rfl⟩
        have hYl : Y.length ≤ 9223372036854775807 := by rw [hY]; simpa [lensOf] using hT
        have HSH : Hid (Calls Tryd.prog 8 #[.slice A T.length cap] w9 fun e w' => (∃ A c, e = .returned (.tuple #[.slice A Y.length c, .int .i64 0]) ∧ Sl w' w'.heap.size A (ints Y)) ∧ Below w9.heap.size w9 w') := by
          show Calls _ _ _ _ _
          refine (shape_any A cap T w9 hT hS9).mono ?_
          rintro e w' ⟨⟨k, A, c, xs, rfl, hsl, h1, h2⟩, hb⟩
          obtain rfl := h2 HOK.out
          obtain rfl := (h1 rfl).2
          rw [← hY] at hsl ⊢
          exact ⟨⟨A, c, rfl, hsl⟩, hb⟩
        have HUY : Hid (lensOf U = Y) := by show _ = _; rw [HUl.out, hY]
        clear hb9 hW8 HA8 HB8 HC8 HCZ8 HP8 HISP hS9 hY HUl
        go_upto_region 17 with (first | (go_at_call 8; refine HSH.out.mono ?_) | fail)
        rintro e w10 ⟨⟨Ax, cx, rfl, hx10⟩, hb10⟩
        go_upto_region 17 with fail
        have hW10 := hW9.trans (hb10.mono hW9.size)
        have HA10 := Lib.hid (HA9.out.keep hb10)
        have HB10 := Lib.hid (HB9.out.keep hb10)
        have HC10 := Lib.hid (HC9.out.keep hb10)
        have HCZ10 : Hid (w10.cell? ⟨P5, 0, none⟩ = some (.int .i64 0)) := (hb10.cell (p := ⟨P5, 0, none⟩) HP9.out).trans HCZ9.out
        have HP10 : Hid (P5 < w10.heap.size) := Nat.lt_of_lt_of_le HP9.out hb10.size
        have HX10 := Lib.hid hx10
        have HSU : Hid (Calls Tryd.prog 8 #[.slice A7 U.length c7] w10 fun e w' => (∃ A c, e = .returned (.tuple #[.slice A Y.length c, .int .i64 0]) ∧ Sl w' w'.heap.size A (ints Y)) ∧ Below w10.heap.size w10 w') := by
          show Calls _ _ _ _ _
          refine (shape_any A7 c7 U w10 hUl HB10.out).mono ?_
          rintro e w' ⟨⟨k, A, c, xs, rfl, hsl, h1, h2⟩, hb⟩
          obtain rfl := h2 HUok.out
          obtain rfl := (h1 rfl).2
          rw [HUY.out] at hsl ⊢
          exact ⟨⟨A, c, rfl, hsl⟩, hb⟩
        clear hb10 hW9 HA9 HB9 HC9 HCZ9 HP9 hx10 HSH
        go_upto_region 18 with (first | (go_at_call 8; refine HSU.out.mono ?_) | fail)
        rintro e w11 ⟨⟨Ay, cy, rfl, hy11⟩, hb11⟩
        go_upto_region 18 with fail
        have hW11 := hW10.trans (hb11.mono hW10.size)
        have HA11 := Lib.hid (HA10.out.keep hb11)
        have HB11 := Lib.hid (HB10.out.keep hb11)
        have HC11 := Lib.hid (HC10.out.keep hb11)
        have cz11 := (hb11.cell (p := ⟨P5, 0, none⟩) HP10.out).trans HCZ10.out
        have HX11 := Lib.hid (HX10.out.keep hb11)
        have HY11 := Lib.hid hy11
        have HW11 := Lib.hid hW11
        clear hb11 hW10 HA10 HB10 HC10 HCZ10 HP10 hy11 HSU HX10 hW11
        have hS11 := HH.out.keep HW11.out
        go_cut [144] (fun bv wz => bv = .bool false ∧ Below w.heap.size w wz)
        case first =>
          go_wp2_with (first | (go_at_call 9; refine (rows_true A5 A c5 cap T _ hT HA11.out hS11).mono ?_) | fail)
          rintro e w12 ⟨rfl, hb12⟩
          have hW12 : Below w.heap.size w w12 := below_call HW11.out (Nat.le_refl _) hb12
          have HB12 := Lib.hid (HB11.out.keep hb12)
          have HC12 := Lib.hid (HC11.out.keep hb12)
          have HX12 := Lib.hid (HX11.out.keep hb12)
          have HY12 := Lib.hid (HY11.out.keep hb12)
          clear hb12 HB11 HC11 HX11 HY11 hS11
          go_wp2_with (first | (go_at_call 9; refine (rows_true A7 A8 c7 c8 U _ hUl HB12.out HC12.out).mono ?_) | fail)
          rintro e w13 ⟨rfl, hb13⟩
          have hW13 : Below w.heap.size w w13 := below_call hW12 (Nat.le_refl _) hb13
          have HX13 := Lib.hid (HX12.out.keep hb13)
          have HY13 := Lib.hid (HY12.out.keep hb13)
          clear hb13 HB12 HC12 HX12 HY12 hW12
          go_wp2_with (first | (go_at_call 10; refine (same_true Ax Ay cx cy Y _ hYl HX13.out HY13.out).mono ?_) | fail)
          rintro e w14 ⟨rfl, hb14⟩
          have hW14 : Below w.heap.size w w14 := below_call hW13 (Nat.le_refl _) hb14
          clear hb14 HX13 HY13 hW13
          go_wp2
          go_meet
          exact ⟨rfl, hW14⟩
        case rest =>
          obtain ⟨rfl, hW12⟩ := hcut
          clear HA11 HB11 HC11 cz11 HX11 HY11 HW11 hS11
          obtain ⟨w12, rfl⟩ : ∃ w12, w12 = wc := ⟨_, rfl⟩
          have hS12 := HH.out.keep hW12
          have HTU := Lib.hid (turned_any A cap T w12 hT HOK.out hS12)
          go_wp2_with (first | (go_at_call 11; refine HTU.out.mono ?_) | fail)
          rintro e w13 ⟨htu, hb13⟩
          have hW13 := hW12.trans (hb13.mono hW12.size)
          rcases htu with ⟨v, hs, rfl, hnd, hm⟩ | ⟨_, k, hk, rfl⟩
          · obtain ⟨V, hV⟩ : ∃ V, V = fillC [] T := ⟨_, rfl⟩
            obtain ⟨hvok, hvnd, hvt⟩ := turn_ok HOK.out hnd
            rw [← hV] at hvok hvnd hvt hm
            obtain ⟨A13, c13, rfl, hsr, _, _⟩ := hm.sr
            have hVl : V.length ≤ 9223372036854775807 := by have := hvok.small.1; omega
            have HT2 : Hid (Calls Tryd.prog 11 #[.slice A13 V.length c13] w13 fun e w' => (∃ A c hs, e = .returned (.tuple #[.slice A T.length c, .int .i64 0]) ∧ OwnM w' w13.heap.size (.slice A T.length c) hs T) ∧ Below w13.heap.size w13 w') := by
              show Calls _ _ _ _ _
              refine (turned_any A13 c13 V w13 hVl hvok hsr).mono ?_
              rintro e w' ⟨⟨v, hs, rfl, _, hm⟩ | ⟨h, _⟩, hb⟩
              · rw [hvt] at hm
                obtain ⟨A, c, rfl, _⟩ := hm.sr
                exact ⟨⟨A, c, hs, rfl, hm⟩, hb⟩
              · exact absurd hvnd h
            clear hV hvok hvnd hvt hm hsr hnd hW12 hS12 HTU hb13
            go_wp2_with (first | (go_at_call 11; refine HT2.out.mono ?_) | fail)
            rintro e w14 ⟨⟨A14, c14, hs14, rfl, hm14⟩, hb14⟩
            have hW14 := hW13.trans (hb14.mono hW13.size)
            obtain ⟨A', c', e', hsr14, _, _⟩ := hm14.sr
            obtain ⟨rfl, rfl⟩ : A14 = A' ∧ c14 = c' := by injection e' with h1 _ h2; exact ⟨h1, h2⟩
            have hS14 := HH.out.keep hW14
            have HR14 := Lib.hid (rows_true A14 A c14 cap T w14 hT hsr14 hS14)
            clear hm14 hb14 hW13 e' hsr14 hS14 HT2
            go_wp2_with (first | (go_at_call 9; refine HR14.out.mono ?_) | fail)
            rintro e w15 ⟨rfl, hb15⟩
            have hW15 : Below w.heap.size w w15 := below_call hW14 (Nat.le_refl _) hb15
            clear hb15 hW14 HR14
            go_wp2
            go_ret
            exact ⟨rfl, hW15⟩
          · have d0 : (k == 0) = false := by simpa using hk
            clear hW12 hS12 HTU hb13
            go_wp2
            go_ret
            exact ⟨rfl, hW13⟩
      · have HWR : Hid (Calls Tryd.prog 5 #[.slice A T.length cap] w4 fun e w' => (∃ k : Int, k ≠ 0 ∧ e = .returned (.tuple #[.string ⟨#[]⟩, .int .i64 k])) ∧ w4 = w') := by
          show Calls _ _ _ _ _
          refine hwr.mono ?_
          rintro e w' ⟨⟨h, _⟩ | ⟨_, h⟩, rfl⟩
          · exact absurd h hok
          · exact ⟨h, rfl⟩
        clear hwr hok hS4
        go_wp2_with (first | (go_at_call 5; refine HWR.out.mono ?_) | fail)
        rintro e w5 ⟨⟨k, hk, rfl⟩, rfl⟩
        have d0 : (k != 0) = true := by simpa using hk
        go_wp2
        go_ret
        exact ⟨by first | rfl | simp, hW4⟩
end Go.Proofs.YtmlmdklheiafpaaDoor
