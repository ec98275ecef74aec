/-
  slices.Compare at ints: what it answers.
-/
import Derived.Test.YtmlmdklheiafpaaKnuM
import Derived.Test.YtmlmdklheiafpaaShaA
import Derived.Shelf.SlicesG.Cmp
import Derived.Shelf.Lay
import Derived.Ground.SlgcProg
namespace Go.Proofs
open Go.Shelf
shelf_lay_g SlLaysC2.n5 Slgc 5 at Try 87 as Try.cmpL
end Go.Proofs
namespace Go.Proofs.Ytmlmdklheiafpaa
open Go.RowKit Go.Proofs
open Go.Shelf

theorem lexC_drop {xs ys : List Int} {i : Nat} (hx : i < xs.length) (hy : i < ys.length) : lexC (xs.drop i) (ys.drop i) = if xs.getD i 0 < ys.getD i 0 then -1 else if ys.getD i 0 < xs.getD i 0 then 1 else lexC (xs.drop (i + 1)) (ys.drop (i + 1)) := by
  rw [List.drop_eq_getElem_cons hx, List.drop_eq_getElem_cons hy, getD_get hx, getD_get hy]; rfl
theorem lexC_over {xs ys : List Int} {i : Nat} (hx : i < xs.length) (hy : ¬ i < ys.length) : lexC (xs.drop i) (ys.drop i) = 1 := by
  have e : ys.drop i = [] := List.drop_eq_nil_of_le (by omega)
  rw [List.drop_eq_getElem_cons hx, e]; rfl
theorem lexC_end {xs ys : List Int} : lexC (xs.drop xs.length) (ys.drop xs.length) = if xs.length < ys.length then -1 else 0 := by
  rw [List.drop_length]
  by_cases h : xs.length < ys.length
  · rw [if_pos h, List.drop_eq_getElem_cons h]; rfl
  · rw [if_neg h, List.drop_eq_nil_of_le (by omega)]; rfl

set_option maxRecDepth 100000 in
set_option maxHeartbeats 1000000 in
theorem compare_any (A A' : Option Addr) (cap cap' : Nat) (xs ys : List Int) (w : World) (hx : xs.length ≤ 9223372036854775807) (hy : ys.length ≤ 9223372036854775807)
    (h : Sl w w.heap.size A (ints xs)) (h' : Sl w w.heap.size A' (ints ys)) :
    Calls Try.prog 69 #[.slice A xs.length cap, .slice A' ys.length cap'] w fun e w' => e = .returned (.int .i64 (lexC xs ys)) ∧ w = w' := by
  have hC : ∀ x y W, Calls Try.prog 87 #[.int .i64 x, .int .i64 y] W fun e w' => e = .returned (.int .i64 (Lib.compareInt x y)) ∧ w' = W := fun x y W => AnyG.cmp_Compare_int Try.cmpL x y W
  have HC := Lib.hid hC
  clear hC
  go_enter Try.func69, Try.ntmps69
  go_wp2_with fail
  go_loopw [11] (fun iv wr => ∃ (i : Nat), i ≤ xs.length ∧ i ≤ ys.length ∧ iv = .int .i64 i ∧ lexC xs ys = lexC (xs.drop i) (ys.drop i) ∧ w = wr) (fun iv _ => xs.length - (intOf iv).toNat)
  case atStart => exact ⟨0, by omega, by omega, rfl, rfl, rfl⟩
  case round =>
    obtain ⟨i, hi, hiy, rfl, heq, rfl⟩ := hrel
    have HE := Lib.hid heq
    clear heq
    by_cases hlt : i < xs.length
    · have hdl : decide (i < xs.length) = true := decide_eq_true hlt
      obtain ⟨b, o, rfl, hb⟩ := h.addr (by omega)
      have hcx := getD_cell h hlt
      by_cases hly : i < ys.length
      · have hdy : decide ((ys.length : Int) ≤ (i : Int)) = false := decide_eq_false (by omega)
        obtain ⟨b', o', rfl, hb'⟩ := h'.addr (by omega)
        have hcy := getD_cell h' hly
        have hst := lexC_drop hlt hly
        obtain ⟨x, hxe⟩ : ∃ x, x = xs.getD i 0 := ⟨_, rfl⟩
        obtain ⟨y, hye⟩ : ∃ y, y = ys.getD i 0 := ⟨_, rfl⟩
        rw [← hxe] at hcx hst
        rw [← hye] at hcy hst
        have hcm : Lib.compareInt x y = if x < y then -1 else if y < x then 1 else 0 := by
          unfold Lib.compareInt
          by_cases h1 : x < y
          · simp [h1]
          · by_cases h2 : y < x <;> simp [h1, h2]
        obtain ⟨r, hr⟩ : ∃ r, r = Lib.compareInt x y := ⟨_, rfl⟩
        rw [← hr] at hcm
        have HR := Lib.hid hr
        have HST := Lib.hid hst
        have HCM := Lib.hid hcm
        clear hxe hye hst hcm hr
        by_cases hr0 : r = 0
        · have hdr : (r != 0) = false := by simpa using hr0
          have hns : Hid (y ≤ x ∧ x ≤ y) := by
            have := HCM.out
            rw [hr0] at this
            show _ ∧ _
            by_cases c2 : x < y
            · rw [if_pos c2] at this; cases this
            · rw [if_neg c2] at this
              by_cases c : y < x
              · rw [if_pos c] at this; cases this
              · omega
          subst hr0
          go_wp2_with (first | (go_at_call 87; refine (HC.out _ _ _).mono ?_; rintro e w' ⟨rfl, rfl⟩; rw [← HR.out]) | fail)
          go_roundw
          case rel =>
            refine ⟨i + 1, by omega, by omega, by go_num, ?_, trivial⟩
            rw [HE.out, HST.out, if_neg (by have := hns.out.1; omega), if_neg (by have := hns.out.2; omega)]
          case measure => simp [intOf]; omega
        · have hdr : (r != 0) = true := by simpa using hr0
          have hfin : Hid (lexC xs ys = r) := by
            show _ = _
            rw [HE.out, HST.out]
            have := HCM.out
            by_cases c : x < y
            · rw [if_pos c] at this ⊢; exact this.symm
            · rw [if_neg c] at this ⊢
              by_cases c2 : y < x
              · rw [if_pos c2] at this ⊢; exact this.symm
              · rw [if_neg c2] at this; exact absurd this hr0
          go_wp2_with (first | (go_at_call 87; refine (HC.out _ _ _).mono ?_; rintro e w' ⟨rfl, rfl⟩; rw [← HR.out]) | fail)
          go_ret
          rw [hfin.out]
          exact ⟨rfl, rfl⟩
      · have hdy : decide ((ys.length : Int) ≤ (i : Int)) = true := decide_eq_true (by omega)
        have hfin : Hid (lexC xs ys = 1) := HE.out.trans (lexC_over hlt hly)
        obtain ⟨x, hxe⟩ : ∃ x, x = xs.getD i 0 := ⟨_, rfl⟩
        rw [← hxe] at hcx
        clear hxe
        go_wp2_with fail
        go_ret
        rw [hfin.out]
        exact ⟨rfl, rfl⟩
    · have hdl : decide (i < xs.length) = false := decide_eq_false hlt
      have hie : i = xs.length := by omega
      have he := HE.out
      rw [hie, lexC_end] at he
      have HF := Lib.hid he
      clear he hie HE
      by_cases c : xs.length < ys.length
      · have dc : decide ((xs.length : Int) < (ys.length : Int)) = true := decide_eq_true (by omega)
        have hfin : Hid (lexC xs ys = -1) := by show _ = _; rw [HF.out, if_pos c]
        go_wp2_with fail
        go_ret
        rw [hfin.out]
        exact ⟨rfl, rfl⟩
      · have dc : decide ((xs.length : Int) < (ys.length : Int)) = false := decide_eq_false (by omega)
        have hfin : Hid (lexC xs ys = 0) := by show _ = _; rw [HF.out, if_neg c]
        go_wp2_with fail
        go_ret
        rw [hfin.out]
        exact ⟨rfl, rfl⟩
end Go.Proofs.Ytmlmdklheiafpaa
