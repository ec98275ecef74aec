/-
  ferlaw.Rows (printed by wip/mkA.py).
-/
import Derived.Test.YtmlmdklheiafpaaDoorMatA
import Derived.Deep.RegionHeld3
import Derived.BigRegion
namespace Go.Proofs.YtmlmdklheiafpaaDoor
open Go.RowKit

theorem getD_take_succ {xs : List (List Int)} {k : Nat} (h : k < xs.length) : xs.take (k + 1) = xs.take k ++ [xs.getD k []] := by
  rw [take_snoc h, getD_get h]

set_option maxRecDepth 100000 in
set_option maxHeartbeats 2000000 in
theorem rows_any (A A' : Option Addr) (cap cap' : Nat) (xs ys : List (List Int)) (w : World) (hx : xs.length ≤ 9223372036854775807) (hy : ys.length ≤ 9223372036854775807) (h : SR w w.heap.size A xs) (h' : SR w w.heap.size A' ys) :
    Calls Tryd.prog 9 #[.slice A xs.length cap, .slice A' ys.length cap'] w fun e w' => e = .returned (.bool (decide (xs = ys))) ∧ Below w.heap.size w w' := by
  by_cases hl : xs.length = ys.length
  · have HL := Lib.hid hl
    have hd0 : (((xs.length : Nat) : Int) != ((ys.length : Nat) : Int)) = false := by simp [hl]
    clear hl
    go_enter Tryd.func9, Tryd.ntmps9
    go_wp2
    go_loopw [13] (fun iv wr => ∃ (i : Nat), i ≤ xs.length ∧ iv = .int .i64 i ∧ xs.take i = ys.take i ∧ Below w.heap.size w wr) (fun iv _ => xs.length - (intOf iv).toNat)
    case atStart => exact ⟨0, by omega, rfl, by simp, Below.refl _ _⟩
    case round =>
      obtain ⟨i, hi, rfl, heq, hW⟩ := hrel
      have HE := Lib.hid heq
      clear heq
      have hwsz := hW.size
      by_cases hlt : i < xs.length
      · have hlt' : i < ys.length := by have := HL.out; omega
        have hdl : decide (i < xs.length) = true := by simpa using hlt
        obtain ⟨b, o, rfl, hb⟩ := h.addr (by omega)
        obtain ⟨b', o', rfl, hb'⟩ := h'.addr (by omega)
        obtain ⟨Ar, cr, hc, hr, hrl⟩ := (h.below hW).at_ hlt
        obtain ⟨Ar', cr', hc', hr', hrl'⟩ := (h'.below hW).at_ hlt'
        obtain ⟨x, hxx⟩ : ∃ x, x = xs.getD i [] := ⟨_, rfl⟩
        obtain ⟨y, hyy⟩ : ∃ x, x = ys.getD i [] := ⟨_, rfl⟩
        rw [← hxx] at hc hr hrl
        rw [← hyy] at hc' hr' hrl'
        have HX := Lib.hid hxx
        have HY := Lib.hid hyy
        have hcall := same_bA Ar Ar' cr cr' x y wr.drew hrl hrl' ((hr.more hwsz)) ((hr'.more hwsz))
        have HCALL := Lib.hid hcall
        clear hxx hyy hcall
        by_cases hxy : x = y
        · have hd : decide (x = y) = true := decide_eq_true hxy
          have hnx : Hid (xs.take (i + 1) = ys.take (i + 1)) := by
            show _ = _
            rw [getD_take_succ hlt, getD_take_succ hlt', HE.out, ← HX.out, ← HY.out, hxy]
          clear hxy
          go_wp2
          go_region_held3 (fun w' => w'.cell? ⟨b, o + i, none⟩ = some (.slice Ar x.length cr) ∧ w'.cell? ⟨b', o' + i, none⟩ = some (.slice Ar' y.length cr')) (first | go_keep | (go_split_ands; refine ⟨(hb9.cell (by show _ < _; simp; omega)).trans ?_, (hb9.cell (by show _ < _; simp; omega)).trans ?_⟩ <;> assumption))
            (first | ((go_at_call 10; refine HCALL.out.mono ?_; rintro e w9 ⟨rfl, hb9⟩)) | fail)
          go_wp2
          go_roundw
          case rel => exact ⟨i + 1, by omega, by go_num, hnx.out, (hW.drew).trans (hb9.mono hwsz)⟩
          case measure => simp [intOf]; omega
        · have hd : decide (x = y) = false := decide_eq_false hxy
          have hfin : Hid (decide (xs = ys) = false) := by
            show _ = _
            rw [decide_eq_false_iff_not]
            intro e
            subst e
            exact hxy (HX.out.trans HY.out.symm)
          clear hxy
          go_wp2
          go_region_held3 (fun w' => w'.cell? ⟨b, o + i, none⟩ = some (.slice Ar x.length cr) ∧ w'.cell? ⟨b', o' + i, none⟩ = some (.slice Ar' y.length cr')) (first | go_keep | (go_split_ands; refine ⟨(hb9.cell (by show _ < _; simp; omega)).trans ?_, (hb9.cell (by show _ < _; simp; omega)).trans ?_⟩ <;> assumption))
            (first | ((go_at_call 10; refine HCALL.out.mono ?_; rintro e w9 ⟨rfl, hb9⟩)) | fail)
          go_wp2
          go_ret
          exact ⟨by rw [hfin.out]; rfl, (hW.drew).trans (hb9.mono hwsz)⟩
      · have hdl : decide (i < xs.length) = false := by simpa using hlt
        have hfin : Hid (decide (xs = ys) = true) := by
          show _ = _
          rw [decide_eq_true_iff]
          have := HE.out
          have hl := HL.out
          rwa [List.take_of_length_le (by omega), List.take_of_length_le (by omega)] at this
        go_wp2
        go_ret
        exact ⟨by rw [hfin.out]; rfl, hW⟩
  · have hd0 : (((xs.length : Nat) : Int) != ((ys.length : Nat) : Int)) = true := by simp; omega
    have hfin : Hid (decide (xs = ys) = false) := by
      show _ = _
      rw [decide_eq_false_iff_not]
      intro e
      subst e
      exact hl rfl
    clear hl
    go_enter Tryd.func9, Tryd.ntmps9
    go_wp2
    go_ret
    exact ⟨by rw [hfin.out]; rfl, Below.refl _ _⟩
end Go.Proofs.YtmlmdklheiafpaaDoor
