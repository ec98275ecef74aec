/-
  rule.right: are all of them partitions, and not too large?
-/
import Derived.Test.YtidnpmkdajicjaaDoorNatL
namespace Go.Proofs.YtidnpmkdajicjaaDoor
open Go.RowKit LR

def RigOk (rows : List (List Int)) : Prop := ∀ i, i < rows.length → IsPart (rows.getD i []) ∧ (rows.getD i []).sum ≤ 16
def RigOut (e : Ending) (rows : List (List Int)) (w w' : World) : Prop := (∃ k : Int, e = .returned (.int .i64 k) ∧ (k = 0 ↔ RigOk rows) ∧ (k = 0 ∨ k = 1 ∨ k = 2)) ∧ w = w'
theorem partChk_rng (p : List Int) : partChk p = 0 ∨ partChk p = 1 ∨ partChk p = 2 := by
  unfold partChk
  split
  · split <;> simp
  · simp
theorem part_len {p : List Int} (h : IsPart p) (h40 : p.sum ≤ 40) : p.length ≤ 40 := by
  have := len_le_sum p h.mem
  omega

set_option maxRecDepth 100000 in
set_option maxHeartbeats 2000000 in
theorem right_any (A : Option Addr) (cap : Nat) (rows : List (List Int)) (w : World) (hl : rows.length ≤ 1000) (h : SR w w.heap.size A rows) :
    Calls Tryd.prog 6 #[.slice A rows.length cap] w fun e w' => RigOut e rows w w' := by
  have H := Lib.hid h
  obtain ⟨n, hn⟩ : ∃ n, n = rows.length := ⟨_, rfl⟩
  rw [← hn] at hl ⊢
  have HN := Lib.hid hn
  clear h hn
  go_enter Tryd.func6, Tryd.ntmps6
  go_upto_region 2 with fail
  go_loopw [4, 5, 10] (fun _ _ iv wr => ∃ i : Nat, i ≤ n ∧ iv = .int .i64 i ∧ (∀ j, j < i → partChk (rows.getD j []) = 0) ∧ w = wr) (fun _ _ iv _ => n - (intOf iv).toNat)
  case atStart => exact ⟨0, Nat.zero_le _, rfl, by omega, rfl⟩
  case round =>
    obtain ⟨i, hi, rfl, hok, rfl⟩ := hrel
    have HOK := Lib.hid hok
    clear hok
    by_cases hin : i < n
    · have di : decide ((i : Int) < (n : Int)) = true := decide_eq_true (by omega)
      obtain ⟨b, o, rfl, hb⟩ := H.out.addr (by rw [← HN.out]; omega)
      obtain ⟨Ar, cr, hc, hr, hrl⟩ := H.out.at_ (r := i) (by rw [← HN.out]; exact hin)
      obtain ⟨p, hp⟩ : ∃ p, p = rows.getD i [] := ⟨_, rfl⟩
      rw [← hp] at hc hr hrl
      have HP := Lib.hid hp
      have HCK := Lib.hid (pcheck_any Ar cr p w hrl hr)
      have hrng := partChk_rng p
      obtain ⟨k, hk⟩ : ∃ k, k = partChk p := ⟨_, rfl⟩
      rw [← hk] at HCK hrng
      have HK := Lib.hid hk
      have HRNG := Lib.hid hrng
      clear hp hk hr hrng
      by_cases hk0 : k = 0
      · have d0 : (k != 0) = false := by simpa using hk0
        have HK0 := Lib.hid hk0
        clear hk0
        go_wp2_with (first | (go_at_call 13; refine (HCK.out).mono ?_; rintro e w' ⟨rfl, rfl⟩) | fail)
        go_roundw
        case rel =>
          refine ⟨i + 1, by omega, by go_num, fun j hj => ?_, trivial⟩
          by_cases e : j = i
          · subst e; rw [← HP.out, ← HK.out, HK0.out]
          · exact HOK.out j (by omega)
        case measure => simp [intOf]; omega
      · have d0 : (k != 0) = true := by simpa using hk0
        have hno : Hid (k = 0 ↔ RigOk rows) := Lib.hid ⟨fun h => absurd h hk0, fun h => by
          have h1 := (h i (by rw [← HN.out]; exact hin))
          rw [← HP.out] at h1
          rw [HK.out]
          exact partChk_zero.2 ⟨h1.1, by have := h1.2; omega⟩⟩
        clear hk0
        go_wp2_with (first | (go_at_call 13; refine (HCK.out).mono ?_; rintro e w' ⟨rfl, rfl⟩) | fail)
        go_ret
        exact ⟨⟨k, rfl, hno.out, HRNG.out⟩, rfl⟩
    · obtain rfl : i = n := by omega
      have di : decide ((i : Int) < (i : Int)) = false := decide_eq_false (by omega)
      go_upto_region 9 with fail
      go_loopw [7, 22] (fun _ iv wr => ∃ j : Nat, j ≤ i ∧ iv = .int .i64 j ∧ (∀ r, r < j → (rows.getD r []).sum ≤ 16) ∧ w = wr) (fun _ iv _ => i - (intOf iv).toNat)
      case atStart => exact ⟨0, Nat.zero_le _, rfl, by omega, rfl⟩
      case round =>
        obtain ⟨j, hj, rfl, hs, rfl⟩ := hrel
        have HSM := Lib.hid hs
        clear hs
        by_cases hji : j < i
        · have dj : decide ((j : Int) < (i : Int)) = true := decide_eq_true (by omega)
          obtain ⟨b, o, rfl, hb⟩ := H.out.addr (by rw [← HN.out]; omega)
          obtain ⟨Ar, cr, hc, hr, hrl⟩ := H.out.at_ (r := j) (by rw [← HN.out]; exact hji)
          have hpc := partChk_zero.1 (HOK.out j hji)
          obtain ⟨p, hp⟩ : ∃ p, p = rows.getD j [] := ⟨_, rfl⟩
          rw [← hp] at hc hr hrl hpc
          have HP := Lib.hid hp
          have hpl := part_len hpc.1 hpc.2
          have HSZ := Lib.hid (psize_any Ar cr p w (by omega) (fun k _ => by have := sumTo_le hpc.1 k; have := hpc.2; omega) hr)
          have HPC := Lib.hid hpc
          obtain ⟨S, hS⟩ : ∃ S, S = p.sum := ⟨_, rfl⟩
          rw [← hS] at HSZ
          have HS := Lib.hid hS
          clear hp hS hr hpc hrl
          by_cases hs16 : 16 < S
          · have ds : decide ((16 : Int) < S) = true := decide_eq_true hs16
            have hno : Hid (¬ RigOk rows) := Lib.hid (fun h => by
              have h1 := (h j (by rw [← HN.out]; exact hji)).2
              rw [← HP.out, ← HS.out] at h1; omega)
            go_wp2_with (first | (go_at_call 7; refine (HSZ.out).mono ?_; rintro e w' ⟨rfl, rfl⟩) | fail)
            go_ret
            exact ⟨⟨2, rfl, ⟨fun h => absurd h (by decide), fun h => absurd h hno.out⟩, by omega⟩, rfl⟩
          · have ds : decide ((16 : Int) < S) = false := decide_eq_false hs16
            have HS16 := Lib.hid hs16
            clear hs16
            go_wp2_with (first | (go_at_call 7; refine (HSZ.out).mono ?_; rintro e w' ⟨rfl, rfl⟩) | fail)
            go_roundw
            case rel =>
              refine ⟨j + 1, by omega, by go_num, fun r hr => ?_, trivial⟩
              by_cases e : r = j
              · subst e; rw [← HP.out, ← HS.out]; have := HS16.out; omega
              · exact HSM.out r (by omega)
            case measure => simp [intOf]; omega
        · obtain rfl : j = i := by omega
          have dj : decide ((j : Int) < (j : Int)) = false := decide_eq_false (by omega)
          have hyes : Hid (RigOk rows) := Lib.hid (fun r hr => ⟨(partChk_zero.1 (HOK.out r (by rw [HN.out]; exact hr))).1, HSM.out r (by rw [HN.out]; exact hr)⟩)
          go_wp2
          go_ret
          exact ⟨⟨0, rfl, ⟨fun _ => hyes.out, fun _ => rfl⟩, by omega⟩, rfl⟩
end Go.Proofs.YtidnpmkdajicjaaDoor
