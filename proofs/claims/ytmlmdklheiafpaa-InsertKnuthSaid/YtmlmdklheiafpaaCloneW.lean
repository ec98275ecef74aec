/-
  slices.Clone of ints; perms.Letters; ferref.Size.
-/
import Derived.Test.YtmlmdklheiafpaaLib
import Derived.Test.YtmlmdklheiafpaaBase
namespace Go.Proofs.Ytmlmdklheiafpaa
open Go.RowKit

set_option maxHeartbeats 400000 in
theorem clone_any (A : Option Addr) (cap : Nat) (xs : List Int) (w : World) (hl : xs.length < 1000000) (h : Sl w w.heap.size A (ints xs)) :
    Calls Try.prog 38 #[.slice A xs.length cap] w fun e w' => ∃ v, e = .returned v ∧ w'.ownsRow w.heap.size 3 1 v xs.length (ints xs) ∧ Below w.heap.size w w' := by
  rcases A with _ | ad
  · have hx : xs = [] := by
      by_cases hp : 0 < xs.length
      · obtain ⟨b, o, e, _⟩ := h.at_ hp
        cases e
      · exact List.eq_nil_of_length_eq_zero (by omega)
    subst hx
    have he := fun w => Lib.run_eql_slice_nil (P := Try.prog) w 22 3 none 0 cap 0 0 Try.underlying22
    go_enter Try.func38, Try.ntmps38
    go_wp2
    go_ret
    exact ⟨_, rfl, World.ownsRow_nil _ _ _ _, Below.refl _ _⟩
  · have he := fun w => Lib.run_eql_slice_nil (P := Try.prog) w 22 3 (some ad) xs.length cap 0 0 Try.underlying22
    go_enter Try.func38, Try.ntmps38
    go_wp2_with (at_builtin; refine wpList_app (l := []) rfl (.tmp 5) (.tmp 6) rfl rfl (World.ownsRow_lit w #[] 0 (Nat.le_refl _) (by decide) rfl) cap rfl (h.below ((Below.refl _ _).alloc (Nat.le_refl _) _)) (by simp; omega) (by simp) (fun v3 w3 hv3 hb3 => ?_))
    go_ret
    exact ⟨_, rfl, by simpa using hv3, ((Below.refl _ _).alloc (Nat.le_refl _) _).trans hb3⟩

/-- Is it a word? -/
def IsWord (xs : List Int) : Prop := ∀ x ∈ xs, 1 ≤ x ∧ x ≤ 99
instance (xs : List Int) : Decidable (IsWord xs) := by unfold IsWord; infer_instance
def wordChk (xs : List Int) : Int := if 40 < xs.length then 2 else if IsWord xs then 0 else 1
theorem wordChk_large {xs : List Int} (h : 40 < xs.length) : wordChk xs = 2 := by simp [wordChk, h]
theorem wordChk_ok {xs : List Int} (h : ¬ 40 < xs.length) (hp : IsWord xs) : wordChk xs = 0 := by simp [wordChk, h, hp]
theorem wordChk_bad {xs : List Int} (h : ¬ 40 < xs.length) (hp : ¬ IsWord xs) : wordChk xs = 1 := by simp [wordChk, h, hp]
theorem wordChk_zero {xs : List Int} (h : wordChk xs = 0) : xs.length ≤ 40 ∧ IsWord xs := by
  unfold wordChk at h
  split at h
  · cases h
  · split at h
    · exact ⟨by omega, by assumption⟩
    · cases h

set_option maxHeartbeats 800000 in
theorem letters_any (A : Option Addr) (cap : Nat) (xs : List Int) (w : World) (hcl : xs.length ≤ 9223372036854775807) (h : Sl w w.heap.size A (ints xs)) :
    Calls Try.prog 56 #[.slice A xs.length cap] w fun e w' => e = .returned (.int .i64 (wordChk xs)) ∧ w = w' := by
  by_cases hn : 40 < xs.length
  · rw [wordChk_large hn]
    go_enter Try.func56, Try.ntmps56
    go_wp2
    go_ret
    exact ⟨rfl, rfl⟩
  have hn' : xs.length ≤ 40 := by omega
  have HN := Lib.hid hn
  clear hn
  go_enter Try.func56, Try.ntmps56
  go_wp2
  go_loop [10] (fun i => ∃ k : Nat, k ≤ xs.length ∧ i = .int .i64 k ∧ ∀ x ∈ xs.take k, 1 ≤ x ∧ x ≤ 99) (fun i => xs.length - (intOf i).toNat)
  case atStart => exact ⟨0, by omega, rfl, by simp⟩
  case round =>
    obtain ⟨k, hk, rfl, hrg⟩ := hrel
    have HRG := Lib.hid hrg
    clear hrg
    by_cases hlt : k < xs.length
    · obtain ⟨b, o, rfl, hb, hc0⟩ := h.at_ hlt
      have ht := take_snoc hlt
      obtain ⟨x, hx⟩ : ∃ x, x = xs[k] := ⟨_, rfl⟩
      rw [← hx] at hc0 ht
      have HT := Lib.hid ht
      have HX := Lib.hid hx
      clear ht hx
      have hxm : Hid (x ∈ xs) := by rw [HX.out]; exact List.getElem_mem hlt
      by_cases h1 : x < 1
      · have hfin : Hid (wordChk xs = 1) := wordChk_bad HN.out (fun hp => by have := (hp x hxm.out).1; omega)
        go_wp2
        go_ret
        exact ⟨by rw [hfin.out]; rfl, rfl⟩
      by_cases h2 : 99 < x
      · have hfin : Hid (wordChk xs = 1) := wordChk_bad HN.out (fun hp => by have := (hp x hxm.out).2; omega)
        go_wp2
        go_ret
        exact ⟨by rw [hfin.out]; rfl, rfl⟩
      go_wp2
      go_round
      case rel =>
        refine ⟨k + 1, by omega, by go_num, ?_⟩
        rw [HT.out]
        intro y hy
        rcases List.mem_append.1 hy with hy | hy
        · exact HRG.out y hy
        · simp at hy; omega
      case measure => simp [intOf]; omega
    · have hfin : Hid (wordChk xs = 0) := wordChk_ok HN.out (by have := HRG.out; rwa [List.take_of_length_le (by omega)] at this)
      go_wp2
      go_ret
      exact ⟨by rw [hfin.out]; rfl, rfl⟩

/-- The sum of the first k. -/
def sumTo (xs : List Int) (k : Nat) : Int := (xs.take k).sum
theorem sumTo_succ {xs : List Int} {k : Nat} (h : k < xs.length) : sumTo xs (k + 1) = sumTo xs k + xs[k] := by
  unfold sumTo
  rw [take_snoc h, List.sum_append]; simp

set_option maxHeartbeats 800000 in
theorem size_any (A : Option Addr) (cap : Nat) (xs : List Int) (w : World) (hcl : xs.length < 1000000) (hr : ∀ k, k ≤ xs.length → -1000000000000 ≤ sumTo xs k ∧ sumTo xs k ≤ 1000000000000) (h : Sl w w.heap.size A (ints xs)) :
    Calls Try.prog 28 #[.slice A xs.length cap] w fun e w' => e = .returned (.int .i64 xs.sum) ∧ w = w' := by
  have HR := Lib.hid hr
  clear hr
  go_enter Try.func28, Try.ntmps28
  go_wp2
  go_loop [3, 4] (fun s i => ∃ k : Nat, k ≤ xs.length ∧ i = .int .i64 k ∧ s = .int .i64 (sumTo xs k)) (fun _ i => xs.length - (intOf i).toNat)
  case atStart => exact ⟨0, by omega, rfl, by simp [sumTo]⟩
  case round =>
    obtain ⟨k, hk, rfl, rfl⟩ := hrel
    by_cases hlt : k < xs.length
    · obtain ⟨b, o, rfl, hb, hc0⟩ := h.at_ hlt
      have hs1 := HR.out k hk
      have hs2 := HR.out (k + 1) (by omega)
      have hs := sumTo_succ hlt
      obtain ⟨x, hx⟩ : ∃ x, x = xs[k] := ⟨_, rfl⟩
      obtain ⟨s, hss⟩ : ∃ s, s = sumTo xs k := ⟨_, rfl⟩
      rw [← hx] at hc0 hs
      rw [← hss] at hs hs1 ⊢
      rw [hs] at hs2
      have HS := Lib.hid hs
      have HX := Lib.hid hx
      have HSS := Lib.hid hss
      clear hs hx hss
      go_wp2
      go_round
      case rel => exact ⟨k + 1, by omega, by go_num, by rw [HS.out]⟩
      case measure => simp [intOf]; omega
    · obtain rfl : k = xs.length := by omega
      go_wp2
      go_ret
      exact ⟨by simp [sumTo], rfl⟩

end Go.Proofs.Ytmlmdklheiafpaa
