/-
  ferkeep.kept, keptRows: such a table is as it was.
-/
import Derived.Test.YtpmkdihencepnaaMg03
import Derived.Test.YtpmkdihencepnaaMg34
import Derived.Test.YtpmkdihencepnaaMg35
namespace Go.Proofs.Ytpmkdihencepnaa
open Go.RowKit

set_option maxRecDepth 100000 in
set_option maxHeartbeats 1000000 in
theorem kept_any (g c : Nat) (A' : Option Addr) (cap : Nat) (xs : List Int) (w : World) (hn : xs.length + 3 ≤ c) (hc : c ≤ 9223372036854775807) (hg : g < w.heap.size) (hcl : ∀ k z, (ints xs ++ [.int .i64 77, .int .i64 77, .int .i64 77])[k]? = some z → w.cell? ⟨g, k, none⟩ = some z) (h : Sl w w.heap.size A' (ints xs)) :
    Calls Try.prog 71 #[.slice (some ⟨g, 0, none⟩) xs.length c, .slice A' xs.length cap, .int .i64 77] w fun e w' => e = .returned (.bool true) ∧ Below w.heap.size w w' := by
  have hsl : Sl w w.heap.size (some ⟨g, 0, none⟩) (ints xs) := fun _ => ⟨g, 0, rfl, hg, fun k u hk => by
    rw [Nat.zero_add]
    have hkl := (List.getElem?_eq_some_iff.1 hk).1
    exact hcl k u (by rw [List.getElem?_append_left hkl]; exact hk)⟩
  have mark : ∀ k, k < 3 → w.cell? ⟨g, xs.length + k, none⟩ = some (.int .i64 77) := fun k hk => by
    refine hcl _ _ ?_
    rw [List.getElem?_append_right (by rw [ints_length]; omega), ints_length, show xs.length + k - xs.length = k by omega]
    rcases (show k = 0 ∨ k = 1 ∨ k = 2 by omega) with rfl | rfl | rfl <;> rfl
  have m0 := mark 0 (by omega)
  have m1 := mark 1 (by omega)
  have m2 := mark 2 (by omega)
  rw [Nat.add_zero] at m0
  have hsa : Calls Try.prog 41 #[.slice (some ⟨g, 0, none⟩) xs.length c, .slice A' xs.length cap] w fun e w' => e = .returned (.bool true) ∧ Below w.heap.size w w' :=
    (same_bA (some ⟨g, 0, none⟩) A' c cap xs xs w (by omega) (by omega) hsl h).mono (fun e w' hh => ⟨by rw [hh.1, decide_eq_true rfl], hh.2⟩)
  have HSA := Lib.hid hsa
  have hwr : IntKind.i64.wrap ((xs.length : Int) + 3) = (xs.length : Int) + 3 := IntWalk.i64_in _ (by omega)
  clear mark hcl hsl h hsa
  go_enter Try.func71, Try.ntmps71
  go_wp2_with (first | (go_at_call 41; refine (HSA.out).mono ?_) | fail)
  rintro e w2 ⟨rfl, hb2⟩
  have m0 := (hb2.cell (p := ⟨g, xs.length, none⟩) hg).trans m0
  have m1 := (hb2.cell (p := ⟨g, xs.length + 1, none⟩) hg).trans m1
  have m2 := (hb2.cell (p := ⟨g, xs.length + 2, none⟩) hg).trans m2
  go_wp2
  go_ret
  exact ⟨rfl, hb2⟩

set_option maxRecDepth 100000 in
set_option maxHeartbeats 2000000 in
theorem keptRows_any (G C : Nat) (A' : Option Addr) (cap : Nat) (T : List (List Int)) (w : World) (h : RmR w w.heap.size G C T) (h2 : SR w w.heap.size A' T) :
    Calls Try.prog 34 #[.slice (some ⟨G, 0, none⟩) T.length C, .slice A' T.length cap] w fun e w' => e = .returned (.bool true) ∧ Below w.heap.size w w' := by
  have H := Lib.hid h
  have H2 := Lib.hid h2
  have hC1 := h.cap.1
  have hC2 := h.cap.2
  have hT : T.length ≤ 9223372036854775807 := by omega
  have hGl := h.lt
  clear h h2
  go_enter Try.func34, Try.ntmps34
  go_wp2
  go_loopw [10] (fun iv wr => ∃ i : Nat, i ≤ T.length ∧ iv = .int .i64 i ∧ Below w.heap.size w wr) (fun iv _ => T.length - (intOf iv).toNat)
  case atStart => exact ⟨0, Nat.zero_le _, rfl, Below.refl _ _⟩
  case round =>
    obtain ⟨i, hi, rfl, hW⟩ := hrel
    have hwsz := hW.size
    by_cases hit : i < T.length
    · have di : decide (i < T.length) = true := decide_eq_true hit
      obtain ⟨g, c, hc, p1, p2, p3, p5⟩ := (H.out.below hW).row i hit
      have h2 := H2.out.below hW
      obtain ⟨b', o', rfl, hb'⟩ := h2.addr (by omega)
      obtain ⟨Ar', cr', hc', hr', hrl'⟩ := h2.at_ hit
      obtain ⟨x, hxx⟩ : ∃ x, x = T.getD i [] := ⟨_, rfl⟩
      rw [← hxx] at hc p1 p5 hc' hr'
      have hcall := kept_any g c Ar' cr' x wr.drew p1 p2 (by show g < wr.heap.size; omega) p5 (hr'.more hwsz)
      have HCALL := Lib.hid hcall
      clear hxx hcall p5 hr' h2
      go_wp2
      go_region_held3 (fun w' => w'.cell? ⟨G, i, none⟩ = some (.slice (some ⟨g, 0, none⟩) x.length c) ∧ w'.cell? ⟨b', o' + i, none⟩ = some (.slice Ar' x.length cr')) (first | go_keep | (go_split_ands; refine ⟨(hb9.cell (by show _ < _; simp; omega)).trans ?_, (hb9.cell (by show _ < _; simp; omega)).trans ?_⟩ <;> assumption))
        (first | ((go_at_call 71; refine HCALL.out.mono ?_; rintro e w9 ⟨rfl, hb9⟩)) | fail)
      go_wp2
      go_roundw
      case rel => exact ⟨i + 1, by omega, by go_num, (hW.drew).trans (hb9.mono hwsz)⟩
      case measure => simp [intOf]; omega
    · have di : decide (i < T.length) = false := decide_eq_false hit
      obtain ⟨m, q1, q2, q3⟩ := (H.out.below hW).mark
      have hwr : IntKind.i64.wrap ((T.length : Int) + 3) = (T.length : Int) + 3 := IntWalk.i64_in _ (by omega)
      go_wp2
      go_loop [32] (fun iv => ∃ k : Nat, k ≤ 3 ∧ iv = .int .i64 k) (fun iv => 3 - (intOf iv).toNat)
      case atStart => exact ⟨0, by omega, rfl⟩
      case round =>
        obtain ⟨k, hk, rfl⟩ := hrel
        by_cases hk3 : k < 3
        · have dk : decide ((k : Int) < 3) = true := decide_eq_true (by omega)
          have hkc := q2 k hk3
          go_wp2
          go_round
          case rel => exact ⟨k + 1, by omega, by go_num⟩
          case measure => simp [intOf]; omega
        · have dk : decide ((k : Int) < 3) = false := decide_eq_false (by omega)
          go_wp2
          go_ret
          exact ⟨rfl, hW⟩
end Go.Proofs.Ytpmkdihencepnaa

/-
  ferkeep.RowsMemory: it answers true.
-/
namespace Go.Proofs.Ytpmkdihencepnaa
open Go.RowKit

theorem Env.below {w w' : World} {B0 ba bb bx Ga Ca Gb Cb : Nat} {a b : List (List Int)} {x : Int} (h : Env w B0 ba bb bx Ga Ca Gb Cb a b x) (hb : Below B0 w w') {B1 : Nat} (h1 : B0 ≤ B1) : Env w' B1 ba bb bx Ga Ca Gb Cb a b x := by
  obtain ⟨l1, l2, l3⟩ := h.lt
  exact ⟨⟨by omega, by omega, by omega⟩, (hb.cell (p := ⟨ba, 0, none⟩) l1).trans h.ca, (hb.cell (p := ⟨bb, 0, none⟩) l2).trans h.cb, (hb.cell (p := ⟨bx, 0, none⟩) l3).trans h.cx, (h.ra.below hb).more h1, (h.rb.below hb).more h1, h.la, h.lb⟩
theorem fill5 : FillOk [[5]] := by
  refine ⟨?_, fun r hr x hx => ?_, by simp [boxes]⟩
  · simp [Tab, Up, Dom]
  · simp at hr; subst hr; simp at hx; subst hx; exact ⟨by omega, by omega⟩
theorem std5 : Std1.std [[5]] = [[1]] := by decide
theorem sr_one (w : World) (x : Int) : SR ((w.alloc (.cells #[.int .i64 x] 3)).alloc (.cells #[.slice (some ⟨w.heap.size, 0, none⟩) 1 1] 26)) (w.heap.size + 2) (some ⟨w.heap.size + 1, 0, none⟩) [[x]] := by
  have ho : OwnM ((w.alloc (.cells #[.int .i64 x] 3)).alloc (.cells #[.slice (some ⟨w.heap.size, 0, none⟩) 1 1] 26)) w.heap.size (.slice (some ⟨(w.alloc (.cells #[.int .i64 x] 3)).heap.size, 0, none⟩) 1 1) [.slice (some ⟨w.heap.size, 0, none⟩) 1 1] [[x]] :=
    OwnM.single (w := w.alloc (.cells #[.int .i64 x] 3)) (l := [x]) rfl (World.ownsRow_lit (e := 3) (size := 1) w #[.int .i64 x] 1 (Nat.le_refl _) (by decide) rfl) (by simp)
  obtain ⟨A, c, e, h, _, _⟩ := ho.sr
  have hs : (w.alloc (.cells #[.int .i64 x] 3)).heap.size = w.heap.size + 1 := by simp
  rw [hs] at e
  obtain ⟨rfl, rfl⟩ : some ⟨w.heap.size + 1, 0, none⟩ = A ∧ 1 = c := by injection e with g1 _ g3; exact ⟨g1, g3⟩
  simpa using h

set_option maxRecDepth 100000 in
set_option maxHeartbeats 4000000 in
theorem law_any (At As : Option Addr) (capt caps : Nat) (T S : List (List Int)) (x : Int) (w : World) (hT : T.length < 1900000) (hTr : ∀ r, (T.getD r []).length < 1900000) (hS : S.length < 1900000) (hSr : ∀ r, (S.getD r []).length < 1900000) (h : SR w w.heap.size At T) (h2 : SR w w.heap.size As S) :
    Calls Try.prog 3 #[.slice At T.length capt, .slice As S.length caps, .int .i64 x] w fun e w' => e = .returned (.bool true) ∧ Below w.heap.size w w' := by
  have H := Lib.hid h
  have H2 := Lib.hid h2
  have HTR := Lib.hid hTr
  have HSR := Lib.hid hSr
  clear h h2 hTr hSr
  have e0 : (w.alloc (.cells #[.int .i64 x] 3)).heap.size = w.heap.size + 1 := by simp
  have hs1 := sr_one (w.alloc (.cells #[.int .i64 x] 3)) 5
  rw [e0] at hs1
  obtain ⟨wa, hwa⟩ : ∃ wa, wa = ((w.alloc (.cells #[.int .i64 x] 3)).alloc (.cells #[.int .i64 5] 3)).alloc (.cells #[.slice (some ⟨w.heap.size + 1, 0, none⟩) 1 1] 26) := ⟨_, rfl⟩
  have hsz : wa.heap.size = w.heap.size + 1 + 2 := by rw [hwa]; simp
  have hWa : Below w.heap.size w wa := by rw [hwa]; exact (((Below.refl _ _).alloc (Nat.le_refl _) _).alloc (by simp) _).alloc (by simp; omega) _
  have hcx : wa.cell? ⟨w.heap.size, 0, none⟩ = some (.int .i64 x) := by
    have h1 : (w.alloc (.cells #[.int .i64 x] 3)).cell? ⟨w.heap.size, 0, none⟩ = some (.int .i64 x) := by rw [World.cell?_alloc_at _ _ _ _ rfl]; rfl
    rw [hwa]
    exact (((Below.refl (w.heap.size + 1) (w.alloc (.cells #[.int .i64 x] 3))).alloc (by simp) (.cells #[.int .i64 5] 3)).alloc (by simp) (.cells #[.slice (some ⟨w.heap.size + 1, 0, none⟩) 1 1] 26)).cell (p := ⟨w.heap.size, 0, none⟩) (by show w.heap.size < w.heap.size + 1; omega) |>.trans h1
  rw [← hwa, ← hsz] at hs1
  have HST := Lib.hid (std_any (some ⟨w.heap.size + 1 + 1, 0, none⟩) 1 [[5]] wa (by decide) hs1)
  have HWA := Lib.hid hwa
  have HSZ := Lib.hid hsz
  have HWa := Lib.hid hWa
  have HCX := Lib.hid hcx
  clear hs1 hwa hsz hWa hcx e0
  go_enter Try.func3, Try.ntmps3
  go_wp2_with (first | (go_at_call 4; rw [← HWA.out]; refine (HST.out).mono ?_) | fail)
  rintro e w2 ⟨hst, hb1⟩
  rcases hst with ⟨-, v, hs, rfl, hm⟩ | ⟨hno, -⟩
  · rw [std5] at hm
    obtain ⟨A1, c1, rfl, hsr, -, -⟩ := hm.sr
    have hW2 := HWa.out.trans (hb1.mono HWa.out.size)
    have hcx := (hb1.cell (p := ⟨w.heap.size, 0, none⟩) (by show w.heap.size < wa.heap.size; have := HSZ.out; omega)).trans HCX.out
    have hs2 := sr_one w2 1
    obtain ⟨wb, hwb⟩ : ∃ wb, wb = (w2.alloc (.cells #[.int .i64 1] 3)).alloc (.cells #[.slice (some ⟨w2.heap.size, 0, none⟩) 1 1] 26) := ⟨_, rfl⟩
    have hbb : Below w2.heap.size w2 wb := by rw [hwb]; exact ((Below.refl _ _).alloc (Nat.le_refl _) _).alloc (by simp) _
    have hszb : wb.heap.size = w2.heap.size + 2 := by rw [hwb]; simp
    rw [← hwb, ← hszb] at hs2
    have hro : Calls Try.prog 5 #[.slice A1 1 c1, .slice (some ⟨w2.heap.size + 1, 0, none⟩) 1 1] wb fun e w' => e = .returned (.bool true) ∧ Below wb.heap.size wb w' :=
      (rows_any A1 (some ⟨w2.heap.size + 1, 0, none⟩) c1 1 [[1]] [[1]] wb (by decide) (by decide) (hsr.keep hbb) hs2).mono (fun e w' hh => ⟨by rw [hh.1, decide_eq_true rfl], hh.2⟩)
    have HRO := Lib.hid hro
    have HWB := Lib.hid hwb
    have HW2 := Lib.hid (hW2.trans (hbb.mono hW2.size))
    have HCX2 := Lib.hid ((hbb.cell (p := ⟨w.heap.size, 0, none⟩) (by show w.heap.size < w2.heap.size; have := HSZ.out; have := hb1.size; omega)).trans hcx)
    have HSB := Lib.hid (Nat.le_trans (show w.heap.size + 1 ≤ wa.heap.size by have := HSZ.out; omega) (Nat.le_trans hb1.size hbb.size))
    clear hm hsr hb1 hs2 hwb hbb hszb hro hW2 HST HWA HSZ HWa HCX hcx
    go_wp2_with (first | (go_at_call 5; rw [← HWB.out]; refine (HRO.out).mono ?_) | fail)
    rintro e w3 ⟨rfl, hb3⟩
    have HCX3 := Lib.hid ((hb3.cell (p := ⟨w.heap.size, 0, none⟩) (by show w.heap.size < wb.heap.size; have := HSB.out; omega)).trans HCX2.out)
    have HW3 := Lib.hid (HW2.out.trans (hb3.mono HW2.out.size))
    have HSB3 := Lib.hid (Nat.le_trans HSB.out hb3.size)
    have HRT := Lib.hid (H.out.now HW3.out (Nat.le_refl _))
    clear hb3 HRO HWB HW2 HCX2 HSB
    go_wp2_with (first | (go_at_call 6; refine (roomyRows_any At capt T w3 hT HTR.out HRT.out).mono ?_) | fail)
    rintro e w4 ⟨⟨Ga, Ca, rfl, hrm⟩, hb4⟩
    have HRA := Lib.hid hrm
    have HW4 := Lib.hid (HW3.out.trans (hb4.mono HW3.out.size))
    have HCX4 := Lib.hid ((hb4.cell (p := ⟨w.heap.size, 0, none⟩) (by show w.heap.size < w3.heap.size; have := HSB3.out; omega)).trans HCX3.out)
    have HSB4 := Lib.hid (Nat.le_trans HSB3.out hb4.size)
    have HRS := Lib.hid (H2.out.now HW4.out (Nat.le_refl _))
    clear hrm hb4 HRT HW3 HCX3 HSB3
    go_wp2_with (first | (go_at_call 6; refine (roomyRows_any As caps S w4 hS HSR.out HRS.out).mono ?_) | fail)
    rintro e w5 ⟨⟨Gb, Cb, rfl, hrm⟩, hb5⟩
    have HRB := Lib.hid hrm
    have HRA5 := Lib.hid (HRA.out.below hb5)
    have HW5 := Lib.hid (HW4.out.trans (hb5.mono HW4.out.size))
    have HCX5 := Lib.hid ((hb5.cell (p := ⟨w.heap.size, 0, none⟩) (by show w.heap.size < w4.heap.size; have := HSB4.out; omega)).trans HCX4.out)
    have HSB5 := Lib.hid (Nat.le_trans HSB4.out hb5.size)
    have hl45 := hb5.size
    clear hrm hb5 HRS HW4 HCX4 HSB4 HRA
    go_upto_region 5 with fail
    obtain ⟨w6, hw6⟩ : ∃ w6, w6 = (w5.alloc (.cells #[.slice (some ⟨Ga, 0, none⟩) T.length Ca] 22)).alloc (.cells #[.slice (some ⟨Gb, 0, none⟩) S.length Cb] 22) := ⟨_, rfl⟩
    have hs6 : w6.heap.size = w5.heap.size + 2 := by rw [hw6]; simp
    have hb6 : Below w5.heap.size w5 w6 := by rw [hw6]; exact ((Below.refl _ _).alloc (Nat.le_refl _) _).alloc (by simp) _
    have hca : w6.cell? ⟨w5.heap.size, 0, none⟩ = some (.slice (some ⟨Ga, 0, none⟩) T.length Ca) := by
      have h1 : (w5.alloc (.cells #[.slice (some ⟨Ga, 0, none⟩) T.length Ca] 22)).cell? ⟨w5.heap.size, 0, none⟩ = some (.slice (some ⟨Ga, 0, none⟩) T.length Ca) := by rw [World.cell?_alloc_at _ _ _ _ rfl]; rfl
      rw [hw6]
      exact ((Below.refl (w5.heap.size + 1) (w5.alloc (.cells #[.slice (some ⟨Ga, 0, none⟩) T.length Ca] 22))).alloc (by simp) (.cells #[.slice (some ⟨Gb, 0, none⟩) S.length Cb] 22)).cell (p := ⟨w5.heap.size, 0, none⟩) (by show w5.heap.size < w5.heap.size + 1; omega) |>.trans h1
    have hcb : w6.cell? ⟨w5.heap.size + 1, 0, none⟩ = some (.slice (some ⟨Gb, 0, none⟩) S.length Cb) := by
      have e1 : (w5.alloc (.cells #[.slice (some ⟨Ga, 0, none⟩) T.length Ca] 22)).heap.size = w5.heap.size + 1 := by simp
      rw [hw6, ← e1, World.cell?_alloc_at _ _ _ _ rfl]; rfl
    have ht9 : T.length ≤ 9223372036854775807 := by omega
    have hs9 : S.length ≤ 9223372036854775807 := by omega
    have HENV : Hid (Env w6 w6.heap.size w5.heap.size (w5.heap.size + 1) w.heap.size Ga Ca Gb Cb T S x) :=
      ⟨⟨by omega, by omega, by have := HSB5.out; omega⟩, hca, hcb, (hb6.cell (p := ⟨w.heap.size, 0, none⟩) (by show w.heap.size < w5.heap.size; have := HSB5.out; omega)).trans HCX5.out, ((HRA5.out.below (hb6.mono hl45)).more (by omega)).sr, ((HRB.out.below hb6).more (by omega)).sr, ht9, hs9⟩
    have HON1 := Lib.hid (once_any true w5.heap.size (w5.heap.size + 1) w.heap.size Ga Ca Gb Cb T S x w6 HENV.out)
    have HRA6 := Lib.hid ((HRA5.out.below (hb6.mono hl45)).more (show w4.heap.size ≤ w6.heap.size by omega))
    have HRB6 := Lib.hid ((HRB.out.below hb6).more (show w5.heap.size ≤ w6.heap.size by omega))
    have HW6 := Lib.hid (HW5.out.trans (hb6.mono HW5.out.size))
    have HCA := Lib.hid hca
    have HCB := Lib.hid hcb
    have HS6 := Lib.hid hs6
    rw [← hw6]
    clear hw6 hb6 hca hcb hs6 HRA5 HRB HW5 HCX5
    go_wp2_with (first | (go_at_call 7; refine (HON1.out).mono ?_) | fail)
    rintro e w7 ⟨⟨A7, c7, ts, rfl, htr, hl7, hgot⟩, hb7⟩
    have HENV7 := Lib.hid (HENV.out.below hb7 hb7.size)
    have HON2 := Lib.hid (once_any false w5.heap.size (w5.heap.size + 1) w.heap.size Ga Ca Gb Cb T S x w7 HENV7.out)
    have HTR := Lib.hid htr
    have HGOT := Lib.hid hgot
    have HB7 := Lib.hid hb7
    clear htr hgot hb7 HON1 HENV
    go_wp2_with (first | (go_at_call 7; refine (HON2.out).mono ?_) | fail)
    rintro e w8 ⟨⟨A8, c8, us, rfl, htr8, hl8, hgot8⟩, hb8⟩
    have hsame : ts = us := HGOT.out.fn (relZ_fn T S x) hgot8
    have HENV8 := Lib.hid (HENV7.out.below hb8 hb8.size)
    have hta : Calls Try.prog 33 #[.slice A7 ts.length c7, .slice A8 us.length c8] w8 fun e w' => e = .returned (.bool true) ∧ Below w8.heap.size w8 w' :=
      (tables_any A7 A8 c7 c8 ts us w8 (by omega) (by omega) (HTR.out.keep hb8) htr8).mono (fun e w' hh => ⟨by rw [hh.1, decide_eq_true hsame], hh.2⟩)
    have HTA := Lib.hid hta
    have HB68 := Lib.hid (HB7.out.trans (hb8.mono HB7.out.size))
    clear htr8 hgot8 hb8 hta hsame HTR HGOT HB7 HON2 HENV7
    go_wp2_with (first | (go_at_call 33; refine (HTA.out).mono ?_) | fail)
    rintro e w9 ⟨rfl, hb9⟩
    have HB69 := Lib.hid (HB68.out.trans (hb9.mono HB68.out.size))
    have hca9 := (HB69.out.cell (p := ⟨w5.heap.size, 0, none⟩) (by show w5.heap.size < w6.heap.size; have := HS6.out; omega)).trans HCA.out
    have HK9 := Lib.hid (keptRows_any Ga Ca At capt T w9 ((HRA6.out.below HB69.out).more HB69.out.size) (H.out.now (HW6.out.trans (HB69.out.mono HW6.out.size)) (Nat.le_refl _)))
    clear hb9 HB68 HTA HENV8
    go_wp2_with (first | (go_at_call 34; refine (HK9.out).mono ?_) | fail)
    rintro e w10 ⟨rfl, hb10⟩
    have HB610 := Lib.hid (HB69.out.trans (hb10.mono HB69.out.size))
    have hcb10 := (HB610.out.cell (p := ⟨w5.heap.size + 1, 0, none⟩) (by show w5.heap.size + 1 < w6.heap.size; have := HS6.out; omega)).trans HCB.out
    have HK10 := Lib.hid (keptRows_any Gb Cb As caps S w10 ((HRB6.out.below HB610.out).more HB610.out.size) (H2.out.now (HW6.out.trans (HB610.out.mono HW6.out.size)) (Nat.le_refl _)))
    clear hb10 HB69 HK9 hca9
    go_wp2_with (first | (go_at_call 34; refine (HK10.out).mono ?_) | fail)
    rintro e w11 ⟨rfl, hb11⟩
    have HW11 := Lib.hid (HW6.out.trans ((HB610.out.trans (hb11.mono HB610.out.size)).mono HW6.out.size))
    clear hb11 HB610 HK10 hcb10
    go_wp2
    go_ret
    exact ⟨rfl, HW11.out⟩
  · exact absurd fill5 hno
end Go.Proofs.Ytpmkdihencepnaa
