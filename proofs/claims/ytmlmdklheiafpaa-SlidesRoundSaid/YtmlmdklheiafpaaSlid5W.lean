/-
  slides.corner, slides.Slide: what they answer.
-/
import Derived.Test.YtmlmdklheiafpaaSlid4W
import Derived.Test.YtmlmdklheiafpaaSlid3W
import Derived.Deep.RegionHeld3
namespace Go.Proofs.Ytmlmdklheiafpaa
open Go.RowKit

/-- Is the last hole of a row one that may slide? -/
def Corner (T : List (List Int)) (k : Nat) : Prop := k < T.length ∧ 0 < hol (T.getD k []) ∧ (k + 1 = T.length ∨ hol (T.getD (k + 1) []) < hol (T.getD k []))
set_option maxRecDepth 100000 in
set_option maxHeartbeats 1000000 in
theorem corner_any (A : Option Addr) (cap : Nat) (T : List (List Int)) (z : Int) (w : World) (hT : T.length ≤ 1000) (hrl1 : ∀ i, (T.getD i []).length ≤ 1000) (h : SR w w.heap.size A T) :
    Calls Try.prog 80 #[.slice A T.length cap, .int .i64 z] w fun e w' => (∃ b : Bool, e = .returned (.bool b) ∧ (b = true → ∃ k : Nat, z = k ∧ Corner T k)) ∧ Below w.heap.size w w' := by
  go_enter Try.func80, Try.ntmps80
  by_cases h0 : 0 ≤ z
  · obtain ⟨k, rfl⟩ : ∃ k : Nat, z = k := ⟨z.toNat, by omega⟩
    have d0 : decide ((0 : Int) ≤ (k : Int)) = true := decide_eq_true h0
    by_cases hk : k < T.length
    · have d1 : decide ((k : Int) < (T.length : Int)) = true := decide_eq_true (by omega)
      obtain ⟨b, o, rfl, hb⟩ := h.addr (by omega)
      obtain ⟨Ar, cr, hc, hr, hrl⟩ := h.at_ hk
      have hca := fun (n : Nat) => holes_any Ar cr (T.getD k []) (w.drewN n) hrl (hr.below (below_drewN (Below.refl _ _) n))
      obtain ⟨x1, hx1⟩ : ∃ x1, x1 = hol (T.getD k []) := ⟨_, rfl⟩
      have hx9 : x1 ≤ 1000 := by rw [hx1]; exact Nat.le_trans (hol_le _) (hrl1 k)
      rw [← hx1] at hca
      have HX1 := Lib.hid hx1
      have HCA := Lib.hid hca
      obtain ⟨q, hq⟩ : ∃ q, q = (T.getD k []).length := ⟨_, rfl⟩
      rw [← hq] at hc HCA
      clear hca hx1 hr hq hrl
      by_cases hx0 : 0 < x1
      · have d2 : decide ((0 : Int) < (x1 : Int)) = true := decide_eq_true (by omega)
        by_cases hlast : k + 1 = T.length
        · have d3 : decide ((k : Int) + 1 = (T.length : Int)) = true := decide_eq_true (by omega)
          have d3' : (((k : Int) + 1 == (T.length : Int))) = true := by simp; omega
          have hfin : Hid (Corner T k) := ⟨hk, by rw [← HX1.out]; exact hx0, .inl hlast⟩
          have hw1 : IntKind.i64.wrap ((k : Int) + 1) = (k : Int) + 1 := IntWalk.i64_in _ (by omega)
          go_wp2
          go_quiet (first | (go_at_call_of 77 (Value.slice Ar q cr); exact Calls.quiet_of_same (HCA.out _)))
          clear hw1
          go_wp2
          go_ret
          exact ⟨⟨_, rfl, fun _ => ⟨k, rfl, hfin.out⟩⟩, below_drewN (Below.refl _ _) _⟩
        · have d3 : ((k : Int) + 1 == (T.length : Int)) = false := by simp; omega
          have d3' : decide ((k : Int) + 1 = (T.length : Int)) = false := decide_eq_false (by omega)
          obtain ⟨A2, c2, hc2, hr2, hrl2⟩ := h.at_ (r := k + 1) (by omega)
          have hcb := fun (n : Nat) => holes_any A2 c2 (T.getD (k + 1) []) (w.drewN n) hrl2 (hr2.below (below_drewN (Below.refl _ _) n))
          obtain ⟨x2, hx2⟩ : ∃ x2, x2 = hol (T.getD (k + 1) []) := ⟨_, rfl⟩
          have hx9 : x2 ≤ 1000 := by rw [hx2]; exact Nat.le_trans (hol_le _) (hrl1 _)
          rw [← hx2] at hcb
          have HX2 := Lib.hid hx2
          have HCB := Lib.hid hcb
          obtain ⟨q2, hq2⟩ : ∃ q2, q2 = (T.getD (k + 1) []).length := ⟨_, rfl⟩
          rw [← hq2] at hc2 HCB
          clear hcb hx2 hr2 hq2 hrl2
          have hk1 : (k : Int) + 1 < (T.length : Int) := by omega
          have hw0 : (0 : Int) ≤ (k : Int) + 1 := by omega
          have hw2 : ((k : Int) + 1).toNat = k + 1 := by omega
          by_cases hlt : x2 < x1
          · have d4 : decide ((x2 : Int) < (x1 : Int)) = true := decide_eq_true (by omega)
            have hfin : Hid (Corner T k) := ⟨hk, by rw [← HX1.out]; exact hx0, .inr (by rw [← HX1.out, ← HX2.out]; exact hlt)⟩
            have hw1 : IntKind.i64.wrap ((k : Int) + 1) = (k : Int) + 1 := IntWalk.i64_in _ (by omega)
            go_wp2
            go_quiet (first | (go_at_call_of 77 (Value.slice Ar q cr); exact Calls.quiet_of_same (HCA.out _)) | (go_at_call_of 77 (Value.slice A2 q2 c2); exact Calls.quiet_of_same (HCB.out _)))
            clear hw1
            go_wp2
            go_ret
            exact ⟨⟨_, rfl, fun _ => ⟨k, rfl, hfin.out⟩⟩, below_drewN (Below.refl _ _) _⟩
          · have d4 : decide ((x2 : Int) < (x1 : Int)) = false := decide_eq_false (by omega)
            have hw1 : IntKind.i64.wrap ((k : Int) + 1) = (k : Int) + 1 := IntWalk.i64_in _ (by omega)
            go_wp2
            go_quiet (first | (go_at_call_of 77 (Value.slice Ar q cr); exact Calls.quiet_of_same (HCA.out _)) | (go_at_call_of 77 (Value.slice A2 q2 c2); exact Calls.quiet_of_same (HCB.out _)))
            clear hw1
            go_wp2
            go_ret
            exact ⟨⟨false, rfl, fun e => by cases e⟩, below_drewN (Below.refl _ _) _⟩
      · have d2 : decide ((0 : Int) < (x1 : Int)) = false := decide_eq_false (by omega)
        go_wp2
        go_quiet (first | (go_at_call_of 77 (Value.slice Ar q cr); exact Calls.quiet_of_same (HCA.out _)))
        go_wp2
        go_ret
        exact ⟨⟨false, rfl, fun e => by cases e⟩, below_drewN (Below.refl _ _) _⟩
    · have d1 : decide ((k : Int) < (T.length : Int)) = false := decide_eq_false (by omega)
      go_wp2
      go_quiet (fail)
      go_wp2
      go_ret
      exact ⟨⟨false, rfl, fun e => by cases e⟩, below_drewN (Below.refl _ _) _⟩
  · have d0 : decide ((0 : Int) ≤ z) = false := decide_eq_false h0
    go_wp2
    go_quiet (fail)
    go_wp2
    go_ret
    exact ⟨⟨false, rfl, fun e => by cases e⟩, below_drewN (Below.refl _ _) _⟩
end Go.Proofs.Ytmlmdklheiafpaa
