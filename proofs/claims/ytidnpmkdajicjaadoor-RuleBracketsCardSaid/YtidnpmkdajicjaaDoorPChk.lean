/-
  Partitions: parts.Check, parts.Size.
-/
import Derived.Test.YtidnpmkdajicjaaDoorShE
namespace Go.Proofs.YtidnpmkdajicjaaDoor
open Go.RowKit

/-- A partition, but for its size. -/
def IsPart (p : List Int) : Prop := (∀ i, i < p.length → 1 ≤ p.getD i 0) ∧ ∀ i, i < p.length → 1 ≤ i → p.getD i 0 ≤ p.getD (i - 1) 0
instance (p : List Int) : Decidable (IsPart p) := by unfold IsPart; infer_instance
/-- No part twice. -/
def IsUnlike (p : List Int) : Prop := ∀ i, i < p.length → 1 ≤ i → p.getD i 0 ≠ p.getD (i - 1) 0
instance (p : List Int) : Decidable (IsUnlike p) := by unfold IsUnlike; infer_instance
def partChk (p : List Int) : Int := if IsPart p then (if p.sum ≤ 40 then 0 else 2) else 1
theorem partChk_zero {p : List Int} : partChk p = 0 ↔ IsPart p ∧ p.sum ≤ 40 := by
  unfold partChk
  by_cases h1 : IsPart p
  · by_cases h2 : p.sum ≤ 40 <;> simp [h1, h2]
  · simp [h1]

theorem len_le_sum : ∀ (p : List Int), (∀ x ∈ p, 1 ≤ x) → (p.length : Int) ≤ p.sum
  | [], _ => by simp
  | x :: p, h => by
    have h1 := len_le_sum p (fun y hy => h y (List.mem_cons_of_mem _ hy))
    have h2 := h x (by simp)
    simp only [List.length_cons, List.sum_cons]
    omega
theorem IsPart.mem {p : List Int} (h : IsPart p) : ∀ x ∈ p, 1 ≤ x := fun x hx => by
  obtain ⟨i, hi, rfl⟩ := List.getElem_of_mem hx
  have := h.1 i hi
  rwa [getD_get hi] at this
/-- The sum of the first k. -/
def sumTo (xs : List Int) (k : Nat) : Int := (xs.take k).sum
theorem sumTo_succ {xs : List Int} {k : Nat} (h : k < xs.length) : sumTo xs (k + 1) = sumTo xs k + xs[k] := by
  unfold sumTo
  rw [take_snoc h, List.sum_append]; simp

theorem sum_nonneg {xs : List Int} (h : ∀ x ∈ xs, 1 ≤ x) : 0 ≤ xs.sum := by have := len_le_sum xs h; omega
theorem sumTo_le {p : List Int} (h : IsPart p) (k : Nat) : sumTo p k ≤ p.sum ∧ 0 ≤ sumTo p k := by
  have h1 : p.sum = (p.take k).sum + (p.drop k).sum := by rw [← List.sum_append, List.take_append_drop]
  have h2 := sum_nonneg (xs := p.drop k) (fun x hx => h.mem x (List.mem_of_mem_drop hx))
  have h3 := sum_nonneg (xs := p.take k) (fun x hx => h.mem x (List.mem_of_mem_take hx))
  unfold sumTo; omega
theorem sumTo_all (p : List Int) : sumTo p p.length = p.sum := by simp [sumTo]

set_option maxHeartbeats 1000000 in
theorem pcheck_any (A : Option Addr) (cap : Nat) (p : List Int) (w : World) (hcl : p.length ≤ 9223372036854775807) (h : Sl w w.heap.size A (ints p)) :
    Calls Tryd.prog 13 #[.slice A p.length cap] w fun e w' => e = .returned (.int .i64 (partChk p)) ∧ w = w' := by
  go_enter Tryd.func13, Tryd.ntmps13
  go_wp2
  go_loop [10] (fun iv => ∃ i : Nat, i ≤ p.length ∧ iv = .int .i64 i ∧ ∀ j, j < i → 1 ≤ p.getD j 0 ∧ (1 ≤ j → p.getD j 0 ≤ p.getD (j - 1) 0)) (fun iv => p.length - (intOf iv).toNat)
  case atStart => exact ⟨0, by omega, rfl, fun j hj => by omega⟩
  case round =>
    obtain ⟨i, hi, rfl, hok⟩ := hrel
    have HK := Lib.hid hok
    clear hok
    by_cases hlt : i < p.length
    · obtain ⟨b, o, rfl, hb⟩ := h.addr (by omega)
      have hcx := getD_cell h hlt
      have hcy := getD_cell h (show i - 1 < p.length by omega)
      have hnot : Hid (IsPart p → 1 ≤ p.getD i 0 ∧ (1 ≤ i → p.getD i 0 ≤ p.getD (i - 1) 0)) := fun hp => ⟨hp.1 i hlt, fun h1 => hp.2 i hlt h1⟩
      have hyes : Hid (1 ≤ p.getD i 0 ∧ (1 ≤ i → p.getD i 0 ≤ p.getD (i - 1) 0) → ∀ j, j < i + 1 → 1 ≤ p.getD j 0 ∧ (1 ≤ j → p.getD j 0 ≤ p.getD (j - 1) 0)) := fun h1 j hj => by
        by_cases e : j = i
        · subst e; exact h1
        · exact HK.out j (by omega)
      obtain ⟨x, hx⟩ : ∃ x, x = p.getD i 0 := ⟨_, rfl⟩
      obtain ⟨y, hy⟩ : ∃ x, x = p.getD (i - 1) 0 := ⟨_, rfl⟩
      rw [← hx] at hcx hnot hyes
      rw [← hy] at hcy hnot hyes
      clear hx hy
      by_cases h1 : x < 1
      · have hd1 : decide (x < 1) = true := by simpa using h1
        have hfin : Hid (partChk p = 1) := by show _ = _; unfold partChk; rw [if_neg (fun hp => by have := hnot.out hp; omega)]
        go_wp2
        go_ret
        exact ⟨by rw [hfin.out]; rfl, rfl⟩
      · have hd1 : decide (x < 1) = false := by simpa using h1
        by_cases h2 : 0 < i
        · have hd2 : decide ((0 : Int) < (i : Int)) = true := by simp; omega
          by_cases h3 : y < x
          · have hd3 : decide (y < x) = true := by simpa using h3
            have hfin : Hid (partChk p = 1) := by show _ = _; unfold partChk; rw [if_neg (fun hp => by have := hnot.out hp; omega)]
            go_wp2
            go_ret
            exact ⟨by rw [hfin.out]; rfl, rfl⟩
          · have hd3 : decide (y < x) = false := by simpa using h3
            go_wp2
            go_round
            case rel => exact ⟨i + 1, by omega, by go_num, hyes.out ⟨by omega, fun _ => by omega⟩⟩
            case measure => simp [intOf]; omega
        · have hd2 : decide ((0 : Int) < (i : Int)) = false := by simp; omega
          go_wp2
          go_round
          case rel => exact ⟨i + 1, by omega, by go_num, hyes.out ⟨by omega, fun _ => by omega⟩⟩
          case measure => simp [intOf]; omega
    · obtain rfl : i = p.length := by omega
      have HP : Hid (IsPart p) := ⟨fun j hj => (HK.out j hj).1, fun j hj h1 => (HK.out j hj).2 h1⟩
      clear hlt hi HK
      go_wp2
      go_loop [5, 33] (fun lv iv => ∃ i : Nat, i ≤ p.length ∧ iv = .int .i64 i ∧ lv = .int .i64 (40 - sumTo p i) ∧ sumTo p i ≤ 40) (fun _ iv => p.length - (intOf iv).toNat)
      case atStart => exact ⟨0, by omega, rfl, by simp [sumTo], by simp [sumTo]⟩
      case round =>
        obtain ⟨i, hi, rfl, rfl, hs40⟩ := hrel
        have hs0 := (sumTo_le HP.out i).2
        by_cases hlt : i < p.length
        · obtain ⟨b, o, rfl, hb⟩ := h.addr (by omega)
          have hcx := getD_cell h hlt
          have hss := sumTo_succ hlt
          rw [← getD_get (d := 0) hlt] at hss
          have hx1 := HP.out.1 i hlt
          have hle := (sumTo_le HP.out (i + 1)).1
          rw [hss] at hle
          obtain ⟨x, hx⟩ : ∃ x, x = p.getD i 0 := ⟨_, rfl⟩
          obtain ⟨s, hs⟩ : ∃ s, s = sumTo p i := ⟨_, rfl⟩
          rw [← hx] at hcx hss hx1 hle
          rw [← hs] at hs0 hs40 hss hle
          rw [← hs]
          have HSS := Lib.hid hss
          clear hx hs hss
          by_cases h1 : 40 - s < x
          · have hfin : Hid (partChk p = 2) := by show _ = _; unfold partChk; rw [if_pos HP.out, if_neg (by omega)]
            clear hle
            go_wp2
            go_ret
            exact ⟨by rw [hfin.out]; rfl, rfl⟩
          · clear hle
            go_wp2
            go_round
            case rel => exact ⟨i + 1, by omega, by go_num, by rw [HSS.out]; go_num, by rw [HSS.out]; omega⟩
            case measure => simp [intOf]; omega
        · obtain rfl : i = p.length := by omega
          have hfin : Hid (partChk p = 0) := partChk_zero.2 ⟨HP.out, by rw [← sumTo_all]; exact hs40⟩
          clear hs40 hs0
          go_wp2
          go_ret
          exact ⟨by rw [hfin.out]; rfl, rfl⟩

set_option maxHeartbeats 800000 in
theorem psize_any (A : Option Addr) (cap : Nat) (xs : List Int) (w : World) (hcl : xs.length < 1000000) (hr : ∀ k, k ≤ xs.length → -1000000000000 ≤ sumTo xs k ∧ sumTo xs k ≤ 1000000000000) (h : Sl w w.heap.size A (ints xs)) :
    Calls Tryd.prog 7 #[.slice A xs.length cap] w fun e w' => e = .returned (.int .i64 xs.sum) ∧ w = w' := by
  have HR := Lib.hid hr
  clear hr
  go_enter Tryd.func7, Tryd.ntmps7
  go_wp2
  go_loop [3, 8] (fun s i => ∃ k : Nat, k ≤ xs.length ∧ i = .int .i64 k ∧ s = .int .i64 (sumTo xs k)) (fun _ i => xs.length - (intOf i).toNat)
  case atStart => exact ⟨0, by omega, rfl, by simp [sumTo]⟩
  case round =>
    obtain ⟨k, hk, rfl, rfl⟩ := hrel
    by_cases hlt : k < xs.length
    · obtain ⟨b, o, rfl, hb, hc0⟩ := h.at_ hlt
      have hs1 := HR.out k hk
      have hs2 := HR.out (k + 1) (by omega)
      have hs := sumTo_succ hlt
      obtain ⟨x, hx⟩ : ∃ x, x = xs[k] := ⟨_, rfl⟩
      obtain ⟨s, hss⟩ : ∃ s, s = sumTo xs k := ⟨_, rfl⟩
      rw [← hx] at hc0 hs
      rw [← hss] at hs hs1 ⊢
      rw [hs] at hs2
      have HS := Lib.hid hs
      have HX := Lib.hid hx
      have HSS := Lib.hid hss
      clear hs hx hss
      go_wp2
      go_round
      case rel => exact ⟨k + 1, by omega, by go_num, by rw [HS.out]⟩
      case measure => simp [intOf]; omega
    · obtain rfl : k = xs.length := by omega
      go_wp2
      go_ret
      exact ⟨by simp [sumTo], rfl⟩
end Go.Proofs.YtidnpmkdajicjaaDoor
