/-
  ferref.Falls, ferref.Wrong: what they answer.
-/
import Derived.Test.YtmlmdklheiafpaaCloneW
import Derived.Test.YtmlmdklheiafpaaFoldI
namespace Go.Proofs.Ytmlmdklheiafpaa
open Go.RowKit

theorem descTo_length (xs : List Int) : ∀ k, (descTo xs k).length ≤ k
  | 0 => by simp [descTo]
  | k + 1 => by
    have := descTo_length xs k
    rw [descTo, List.length_append]
    split <;> simp <;> omega
theorem descTo_mem (xs : List Int) : ∀ k, ∀ x ∈ descTo xs k, 0 ≤ x ∧ x ≤ k
  | 0, x, hx => by simp [descTo] at hx
  | k + 1, x, hx => by
    rw [descTo, List.mem_append] at hx
    rcases hx with hx | hx
    · have := descTo_mem xs k x hx; omega
    · split at hx
      · simp at hx; omega
      · cases hx

theorem sum_bound {xs : List Int} {m : Int} (h : ∀ x ∈ xs, 0 ≤ x ∧ x ≤ m) : 0 ≤ xs.sum ∧ xs.sum ≤ m * xs.length := by
  induction xs with
  | nil => simp
  | cons y xs ih =>
    have h1 := ih (fun x hx => h x (List.mem_cons_of_mem _ hx))
    have h2 := h y (by simp)
    rw [List.sum_cons, List.length_cons]
    have : m * ((xs.length + 1 : Nat) : Int) = m * xs.length + m := by rw [Int.natCast_add, Int.mul_add]; simp
    omega

theorem sumTo_bound {xs : List Int} {m : Int} (hm : 0 ≤ m) (h : ∀ x ∈ xs, 0 ≤ x ∧ x ≤ m) (k : Nat) : 0 ≤ sumTo xs k ∧ sumTo xs k ≤ m * xs.length := by
  have h1 := sum_bound (xs := xs.take k) (fun x hx => h x (List.mem_of_mem_take hx))
  have h2 : m * ((xs.take k).length : Int) ≤ m * xs.length := Int.mul_le_mul_of_nonneg_left (by rw [List.length_take]; omega) hm
  unfold sumTo
  omega

set_option maxHeartbeats 1000000 in
theorem falls_any (A : Option Addr) (cap : Nat) (xs : List Int) (w : World) (hn : xs.length ≤ 40) (h : Sl w w.heap.size A (ints xs)) :
    Calls Try.prog 19 #[.slice A xs.length cap] w fun e w' => ∃ v, e = .returned (.tuple #[v, .int .i64 (majOf xs)]) ∧ Below w.heap.size w w' := by
  go_enter Try.func19, Try.ntmps19
  go_wp2
  go_loopw [4, 5] (fun ov iv wr => ∃ i : Nat, 1 ≤ i ∧ i ≤ max 1 xs.length ∧ iv = .int .i64 i ∧ wr.ownsRow w.heap.size 3 1 ov (descTo xs i).length (ints (descTo xs i)) ∧ Below w.heap.size w wr) (fun _ iv _ => xs.length - (intOf iv).toNat)
  case atStart => exact ⟨1, by omega, by omega, by go_num, by simpa [descTo, ints] using World.ownsRow_nil w w.heap.size 3 1, Below.refl _ _⟩
  case round =>
    obtain ⟨i, h1, hi, rfl, hown, hbl⟩ := hrel
    have HO := Lib.hid hown
    clear hown
    by_cases hlt : i < xs.length
    · obtain ⟨b, o, rfl, hb⟩ := h.addr (by omega)
      have hcx := getD_cell (h.below hbl) hlt
      have hcy := getD_cell (h.below hbl) (show i - 1 < xs.length by omega)
      obtain ⟨x, hx⟩ : ∃ x, x = xs.getD i 0 := ⟨_, rfl⟩
      obtain ⟨y, hy⟩ : ∃ x, x = xs.getD (i - 1) 0 := ⟨_, rfl⟩
      rw [← hx] at hcx
      rw [← hy] at hcy
      have hd0 : decide (i < xs.length) = true := by simpa using hlt
      have HX := Lib.hid hx
      have HY := Lib.hid hy
      have hdl := descTo_length xs i
      clear hx hy
      by_cases hxy : x < y
      · have hd1 : decide (x < y) = true := by simpa using hxy
        have HF : Hid (descTo xs (i + 1) = descTo xs i ++ [(i : Int)]) := by
          show _ = _
          rw [descTo, if_pos ⟨h1, by rw [← HX.out, ← HY.out]; exact hxy⟩]
        go_wp2
        go_quiet (fail)
        go_wp2_with (at_builtin; refine wpList_app1 rfl (.tmp 22) (.tmp 24) rfl rfl (i : Int) (own_drewN HO.out _) rfl (by omega) hbl.size (fun g2 c2 w2 hl2 hb2 => ?_))
        go_roundw
        case rel => exact ⟨i + 1, by omega, by omega, by go_num, by rw [HF.out]; simpa using hl2, (below_drewN hbl _).trans hb2⟩
        case measure => simp [intOf]; omega
      · have hd1 : decide (x < y) = false := by simpa using hxy
        have HF : Hid (descTo xs (i + 1) = descTo xs i) := by
          show _ = _
          rw [descTo, if_neg (fun h => by rw [← HX.out, ← HY.out] at h; exact hxy h.2), List.append_nil]
        go_wp2
        go_quiet (fail)
        go_wp2
        go_roundw
        case rel => exact ⟨i + 1, by omega, by omega, by go_num, by rw [HF.out]; exact HO.out, below_drewN hbl _⟩
        case measure => simp [intOf]; omega
    · have hdl := descTo_length xs i
      have hsl := Sl.of_own (A := none) (n := 0) (cap := 0) (World.ownsRow_nil wr w.heap.size 3 1)
      have hd0 : decide (i < xs.length) = false := by simpa using hlt
      have HM : Hid (majOf xs = (descTo xs i).sum) := by
        show _ = _
        unfold majOf
        by_cases he : i = xs.length
        · rw [he]
        · obtain rfl : i = 1 := by omega
          have : xs.length = 0 := by omega
          rw [this]; simp [descTo]
      obtain ⟨A', c', hv, hs⟩ : ∃ A' c', u4 = .slice A' (descTo xs i).length c' ∧ Sl wr wr.heap.size A' (ints (descTo xs i)) := by
        have ho := HO.out
        rcases ho.2 with ⟨e1, e2⟩ | ⟨g, c, _, e1, _⟩
        · refine ⟨none, 0, by rw [e2]; exact e1, ?_⟩
          rw [List.eq_nil_of_length_eq_zero e2]; exact Sl.nil _ _ _
        · rw [e1] at ho
          exact ⟨_, c, e1, Sl.of_own ho⟩
      rw [hv]
      clear hv
      go_wp2_with fail
      refine (size_any A' c' (descTo xs i) _ (by omega) (fun k hk => ?_) hs).mono ?_
      · have := sumTo_bound (m := 40) (by omega) (xs := descTo xs i) (fun x hx => by have := descTo_mem xs i x hx; omega) k
        have : (40 : Int) * ((descTo xs i).length : Int) ≤ 40 * 41 := by omega
        omega
      rintro e w' ⟨rfl, rfl⟩
      go_wp2
      go_ret2
      exact ⟨_, by rw [HM.out]; rfl, hbl⟩

theorem overAt_le (xs : List Int) (i k : Nat) : overAt xs i k ≤ k := by
  have := List.countP_le_length (p := fun a => decide (xs.getD i 0 < a)) (l := xs.take k)
  rw [List.length_take] at this
  unfold overAt; omega
theorem overAt_succ (xs : List Int) (i k : Nat) (hk : k < xs.length) : overAt xs i (k + 1) = overAt xs i k + if xs.getD i 0 < xs.getD k 0 then 1 else 0 := by
  unfold overAt
  rw [take_snoc hk, List.countP_append, getD_get hk]
  by_cases h : xs.getD i 0 < xs[k] <;> simp
theorem wrongTo_le (xs : List Int) : ∀ i, wrongTo xs i ≤ i * i
  | 0 => by simp [wrongTo]
  | i + 1 => by
    have h1 := wrongTo_le xs i
    have h2 := overAt_le xs i i
    rw [wrongTo, Nat.add_mul, Nat.mul_add]
    omega

set_option maxHeartbeats 1000000 in
theorem wrong_any (A : Option Addr) (cap : Nat) (xs : List Int) (w : World) (hn : xs.length ≤ 40) (h : Sl w w.heap.size A (ints xs)) :
    Calls Try.prog 20 #[.slice A xs.length cap] w fun e w' => e = .returned (.int .i64 (wrongTo xs xs.length)) ∧ Below w.heap.size w w' := by
  go_enter Try.func20, Try.ntmps20
  go_wp2
  go_loopw [3, 4] (fun nv iv wr => ∃ i : Nat, i ≤ xs.length ∧ iv = .int .i64 i ∧ nv = .int .i64 (wrongTo xs i) ∧ ∃ d, wr = w.drewN d) (fun _ iv _ => xs.length - (intOf iv).toNat)
  case atStart => exact ⟨0, by omega, rfl, rfl, 0, rfl⟩
  case round =>
    obtain ⟨i, hi, rfl, rfl, d, rfl⟩ := hrel
    have hwl := wrongTo_le xs i
    have hwl2 : i * i ≤ 40 * 40 := Nat.mul_le_mul (by omega) (by omega)
    by_cases hlt : i < xs.length
    · obtain ⟨b, o, rfl, hb⟩ := h.addr (by omega)
      have hd0 : decide (i < xs.length) = true := by simpa using hlt
      have hcx := getD_cell h hlt
      obtain ⟨x, hx⟩ : ∃ x, x = xs.getD i 0 := ⟨_, rfl⟩
      rw [← hx] at hcx
      have HX := Lib.hid hx
      clear hx
      obtain ⟨c, hc⟩ : ∃ c, c = wrongTo xs i := ⟨_, rfl⟩
      rw [← hc] at hwl ⊢
      have HC := Lib.hid hc
      clear hc
      go_wp2
      go_loopw [3, 5] (fun nv kv wr => ∃ k : Nat, k ≤ i ∧ kv = .int .i64 k ∧ nv = .int .i64 ((c + overAt xs i k : Nat) : Int) ∧ ∃ d, wr = w.drewN d) (fun _ kv _ => xs.length - (intOf kv).toNat)
      case atStart => exact ⟨0, by omega, rfl, by simp [overAt], _, rfl⟩
      case round =>
        obtain ⟨k, hk, rfl, rfl, d', rfl⟩ := hrel
        have hol := overAt_le xs i k
        by_cases hki : k < i
        · have hd1 : decide (k < i) = true := by simpa using hki
          have hcy := getD_cell h (show k < xs.length by omega)
          have hos := overAt_succ xs i k (by omega)
          rw [← HX.out] at hos
          obtain ⟨y, hy⟩ : ∃ x, x = xs.getD k 0 := ⟨_, rfl⟩
          rw [← hy] at hcy hos
          obtain ⟨m, hm⟩ : ∃ m, m = overAt xs i k := ⟨_, rfl⟩
          rw [← hm] at hos hol ⊢
          have HOS := Lib.hid hos
          clear hos hy hm
          by_cases hxy : x < y
          · have hd2 : decide (x < y) = true := by simpa using hxy
            go_wp2
            go_quiet (fail)
            go_wp2
            go_roundw
            case rel => exact ⟨k + 1, by omega, by go_num, by rw [HOS.out, if_pos hxy]; go_num, _, rfl⟩
            case measure => simp [intOf]; omega
          · have hd2 : decide (x < y) = false := by simpa using hxy
            go_wp2
            go_quiet (fail)
            go_wp2
            go_roundw
            case rel => exact ⟨k + 1, by omega, by go_num, by rw [HOS.out, if_neg (by omega)]; go_num, _, rfl⟩
            case measure => simp [intOf]; omega
        · obtain rfl : k = i := by omega
          go_wp2
          go_roundw
          case rel => exact ⟨k + 1, by omega, by go_num, by rw [wrongTo, ← HC.out], _, rfl⟩
          case measure => simp [intOf]; omega
    · obtain rfl : i = xs.length := by omega
      go_wp2
      go_ret
      exact ⟨rfl, below_drewN (Below.refl _ _) d⟩

end Go.Proofs.Ytmlmdklheiafpaa
