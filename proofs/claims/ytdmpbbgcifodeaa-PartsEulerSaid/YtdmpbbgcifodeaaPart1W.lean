/-
  parts.Check, parts.unlike: what they answer.
-/
import Derived.Test.YtdmpbbgcifodeaaShared
import Derived.Test.YtdmpbbgcifodeaaFrankM
namespace Go.Proofs.Ytdmpbbgcifodeaa
open Go.RowKit

theorem sum_nonneg {xs : List Int} (h : ∀ x ∈ xs, 1 ≤ x) : 0 ≤ xs.sum := by have := len_le_sum xs h; omega
theorem sumTo_le {p : List Int} (h : IsPart p) (k : Nat) : sumTo p k ≤ p.sum ∧ 0 ≤ sumTo p k := by
  have h1 : p.sum = (p.take k).sum + (p.drop k).sum := by rw [← List.sum_append, List.take_append_drop]
  have h2 := sum_nonneg (xs := p.drop k) (fun x hx => h.mem x (List.mem_of_mem_drop hx))
  have h3 := sum_nonneg (xs := p.take k) (fun x hx => h.mem x (List.mem_of_mem_take hx))
  unfold sumTo; omega
theorem sumTo_all (p : List Int) : sumTo p p.length = p.sum := by simp [sumTo]

set_option maxHeartbeats 1000000 in
theorem pcheck_any (A : Option Addr) (cap : Nat) (p : List Int) (w : World) (hcl : p.length ≤ 9223372036854775807) (h : Sl w w.heap.size A (ints p)) :
    Calls Try.prog 59 #[.slice A p.length cap] w fun e w' => e = .returned (.int .i64 (partChk p)) ∧ w = w' := by
  go_enter Try.func59, Try.ntmps59
  go_wp2
  go_loop [10] (fun iv => ∃ i : Nat, i ≤ p.length ∧ iv = .int .i64 i ∧ ∀ j, j < i → 1 ≤ p.getD j 0 ∧ (1 ≤ j → p.getD j 0 ≤ p.getD (j - 1) 0)) (fun iv => p.length - (intOf iv).toNat)
  case atStart => exact ⟨0, by omega, rfl, fun j hj => by omega⟩
  case round =>
    obtain ⟨i, hi, rfl, hok⟩ := hrel
    have HK := Lib.hid hok
    clear hok
    by_cases hlt : i < p.length
    · obtain ⟨b, o, rfl, hb⟩ := h.addr (by omega)
      have hcx := getD_cell h hlt
      have hcy := getD_cell h (show i - 1 < p.length by omega)
      have hnot : Hid (IsPart p → 1 ≤ p.getD i 0 ∧ (1 ≤ i → p.getD i 0 ≤ p.getD (i - 1) 0)) := fun hp => ⟨hp.1 i hlt, fun h1 => hp.2 i hlt h1⟩
      have hyes : Hid (1 ≤ p.getD i 0 ∧ (1 ≤ i → p.getD i 0 ≤ p.getD (i - 1) 0) → ∀ j, j < i + 1 → 1 ≤ p.getD j 0 ∧ (1 ≤ j → p.getD j 0 ≤ p.getD (j - 1) 0)) := fun h1 j hj => by
        by_cases e : j = i
        · subst e; exact h1
        · exact HK.out j (by omega)
      obtain ⟨x, hx⟩ : ∃ x, x = p.getD i 0 := ⟨_, rfl⟩
      obtain ⟨y, hy⟩ : ∃ x, x = p.getD (i - 1) 0 := ⟨_, rfl⟩
      rw [← hx] at hcx hnot hyes
      rw [← hy] at hcy hnot hyes
      clear hx hy
      by_cases h1 : x < 1
      · have hd1 : decide (x < 1) = true := by simpa using h1
        have hfin : Hid (partChk p = 1) := by show _ = _; unfold partChk; rw [if_neg (fun hp => by have := hnot.out hp; omega)]
        go_wp2
        go_ret
        exact ⟨by rw [hfin.out]; rfl, rfl⟩
      · have hd1 : decide (x < 1) = false := by simpa using h1
        by_cases h2 : 0 < i
        · have hd2 : decide ((0 : Int) < (i : Int)) = true := by simp; omega
          by_cases h3 : y < x
          · have hd3 : decide (y < x) = true := by simpa using h3
            have hfin : Hid (partChk p = 1) := by show _ = _; unfold partChk; rw [if_neg (fun hp => by have := hnot.out hp; omega)]
            go_wp2
            go_ret
            exact ⟨by rw [hfin.out]; rfl, rfl⟩
          · have hd3 : decide (y < x) = false := by simpa using h3
            go_wp2
            go_round
            case rel => exact ⟨i + 1, by omega, by go_num, hyes.out ⟨by omega, fun _ => by omega⟩⟩
            case measure => simp [intOf]; omega
        · have hd2 : decide ((0 : Int) < (i : Int)) = false := by simp; omega
          go_wp2
          go_round
          case rel => exact ⟨i + 1, by omega, by go_num, hyes.out ⟨by omega, fun _ => by omega⟩⟩
          case measure => simp [intOf]; omega
    · obtain rfl : i = p.length := by omega
      have HP : Hid (IsPart p) := ⟨fun j hj => (HK.out j hj).1, fun j hj h1 => (HK.out j hj).2 h1⟩
      clear hlt hi HK
      go_wp2
      go_loop [5, 33] (fun lv iv => ∃ i : Nat, i ≤ p.length ∧ iv = .int .i64 i ∧ lv = .int .i64 (40 - sumTo p i) ∧ sumTo p i ≤ 40) (fun _ iv => p.length - (intOf iv).toNat)
      case atStart => exact ⟨0, by omega, rfl, by simp [sumTo], by simp [sumTo]⟩
      case round =>
        obtain ⟨i, hi, rfl, rfl, hs40⟩ := hrel
        have hs0 := (sumTo_le HP.out i).2
        by_cases hlt : i < p.length
        · obtain ⟨b, o, rfl, hb⟩ := h.addr (by omega)
          have hcx := getD_cell h hlt
          have hss := sumTo_succ hlt
          rw [← getD_get (d := 0) hlt] at hss
          have hx1 := HP.out.1 i hlt
          have hle := (sumTo_le HP.out (i + 1)).1
          rw [hss] at hle
          obtain ⟨x, hx⟩ : ∃ x, x = p.getD i 0 := ⟨_, rfl⟩
          obtain ⟨s, hs⟩ : ∃ s, s = sumTo p i := ⟨_, rfl⟩
          rw [← hx] at hcx hss hx1 hle
          rw [← hs] at hs0 hs40 hss hle
          rw [← hs]
          have HSS := Lib.hid hss
          clear hx hs hss
          by_cases h1 : 40 - s < x
          · have hfin : Hid (partChk p = 2) := by show _ = _; unfold partChk; rw [if_pos HP.out, if_neg (by omega)]
            clear hle
            go_wp2
            go_ret
            exact ⟨by rw [hfin.out]; rfl, rfl⟩
          · clear hle
            go_wp2
            go_round
            case rel => exact ⟨i + 1, by omega, by go_num, by rw [HSS.out]; go_num, by rw [HSS.out]; omega⟩
            case measure => simp [intOf]; omega
        · obtain rfl : i = p.length := by omega
          have hfin : Hid (partChk p = 0) := partChk_zero.2 ⟨HP.out, by rw [← sumTo_all]; exact hs40⟩
          clear hs40 hs0
          go_wp2
          go_ret
          exact ⟨by rw [hfin.out]; rfl, rfl⟩

set_option maxHeartbeats 1000000 in
theorem unlike_any (A : Option Addr) (cap : Nat) (p : List Int) (w : World) (hcl : p.length ≤ 1000000) (h : Sl w w.heap.size A (ints p)) :
    Calls Try.prog 60 #[.slice A p.length cap] w fun e w' => e = .returned (.bool (decide (IsUnlike p))) ∧ Below w.heap.size w w' := by
  go_enter Try.func60, Try.ntmps60
  go_wp2
  go_loopw [3] (fun iv wr => ∃ i : Nat, 1 ≤ i ∧ i ≤ max 1 p.length ∧ iv = .int .i64 i ∧ (∀ j, j < i → 1 ≤ j → p.getD j 0 ≠ p.getD (j - 1) 0) ∧ ∃ n, wr = w.drewN n) (fun iv _ => p.length - (intOf iv).toNat)
  case atStart => exact ⟨1, by omega, by omega, by go_num, fun j hj h1 => by omega, 0, rfl⟩
  case round =>
    obtain ⟨i, h1, hi, rfl, hok, n, rfl⟩ := hrel
    have HK := Lib.hid hok
    clear hok
    by_cases hlt : i < p.length
    · obtain ⟨b, o, rfl, hb⟩ := h.addr (by omega)
      have hcx := getD_cell h hlt
      have hcy := getD_cell h (show i - 1 < p.length by omega)
      have hnot : Hid (IsUnlike p → p.getD i 0 ≠ p.getD (i - 1) 0) := fun hp => hp i hlt h1
      have hyes : Hid (p.getD i 0 ≠ p.getD (i - 1) 0 → ∀ j, j < i + 1 → 1 ≤ j → p.getD j 0 ≠ p.getD (j - 1) 0) := fun h1 j hj h2 => by
        by_cases e : j = i
        · subst e; exact h1
        · exact HK.out j (by omega) h2
      obtain ⟨x, hx⟩ : ∃ x, x = p.getD i 0 := ⟨_, rfl⟩
      obtain ⟨y, hy⟩ : ∃ x, x = p.getD (i - 1) 0 := ⟨_, rfl⟩
      rw [← hx] at hcx hnot hyes
      rw [← hy] at hcy hnot hyes
      clear hx hy
      by_cases hxy : x = y
      · have hfin : Hid (decide (IsUnlike p) = false) := by show _ = _; rw [decide_eq_false_iff_not]; exact fun hp => hnot.out hp hxy
        have hd : (x == y) = true := by simpa using hxy
        clear hnot hyes hxy
        go_wp2
        go_quiet (fail)
        go_wp2
        go_ret
        exact ⟨by rw [hfin.out]; rfl, below_drewN (below_drewN (Below.refl _ _) _) _⟩
      · have hd : (x == y) = false := by simpa using hxy
        have hy' := Lib.hid (hyes.out hxy)
        clear hnot hyes hxy
        go_wp2
        go_quiet (fail)
        go_wp2
        go_roundw
        case rel => exact ⟨i + 1, by omega, by omega, by go_num, hy'.out, _, rfl⟩
        case measure => simp [intOf]; omega
    · have hfin : Hid (decide (IsUnlike p) = true) := by show _ = _; rw [decide_eq_true_iff]; exact fun j hj h2 => HK.out j (by omega) h2
      go_wp2
      go_ret
      exact ⟨by rw [hfin.out]; rfl, below_drewN (Below.refl _ _) _⟩

end Go.Proofs.Ytdmpbbgcifodeaa
