/-
  PermsMacmahon: the law, walked.
-/
import Derived.Test.YtmlmdklheiafpaaUnfoldW
import Derived.Test.YtmlmdklheiafpaaSameW
namespace Go.Proofs.Ytmlmdklheiafpaa
open Go.RowKit

theorem sl_new (w : World) (cs : List Value) (B : Nat) (hB : w.heap.size < B) : Sl (w.alloc (.cells cs.toArray 3)) B (some ⟨w.heap.size, 0, none⟩) cs := fun _ =>
  ⟨_, _, rfl, hB, fun k u hk => by rw [World.cell?_alloc_at _ _ _ _ rfl]; simpa using hk⟩

set_option maxHeartbeats 400000 in
theorem fold_err (A : Option Addr) (cap : Nat) (xs : List Int) (w : World) (hcl : xs.length ≤ 9223372036854775807) (hp : wordChk xs ≠ 0) (h : Sl w w.heap.size A (ints xs)) :
    Calls Try.prog 17 #[.slice A xs.length cap] w fun e w' => e = .returned (.tuple #[.slice none 0 0, .int .i64 (wordChk xs)]) ∧ Below w.heap.size w w' := by
  obtain ⟨c, hc⟩ : ∃ c, c = wordChk xs := ⟨_, rfl⟩
  have hd : (c != 0) = true := by rw [hc]; simpa using hp
  have HC := Lib.hid hc
  clear hc hp
  go_enter Try.func17, Try.ntmps17
  go_wp2_with fail
  refine (letters_any _ _ _ _ hcl h).mono ?_
  rintro e w1 ⟨rfl, rfl⟩
  rw [← HC.out]
  go_wp2
  go_ret2
  exact ⟨by rw [← HC.out]; rfl, Below.refl _ _⟩

set_option maxHeartbeats 400000 in
theorem unfold_err (A : Option Addr) (cap : Nat) (xs : List Int) (w : World) (hcl : xs.length ≤ 9223372036854775807) (hp : wordChk xs ≠ 0) (h : Sl w w.heap.size A (ints xs)) :
    Calls Try.prog 18 #[.slice A xs.length cap] w fun e w' => e = .returned (.tuple #[.slice none 0 0, .int .i64 (wordChk xs)]) ∧ Below w.heap.size w w' := by
  obtain ⟨c, hc⟩ : ∃ c, c = wordChk xs := ⟨_, rfl⟩
  have hd : (c != 0) = true := by rw [hc]; simpa using hp
  have HC := Lib.hid hc
  clear hc hp
  go_enter Try.func18, Try.ntmps18
  go_wp2_with fail
  refine (letters_any _ _ _ _ hcl h).mono ?_
  rintro e w1 ⟨rfl, rfl⟩
  rw [← HC.out]
  go_wp2
  go_ret2
  exact ⟨by rw [← HC.out]; rfl, Below.refl _ _⟩

theorem isWord_perm {a b : List Int} (h : a.Perm b) (hb : IsWord b) : IsWord a := fun x hx => hb x (h.mem_iff.1 hx)

set_option maxHeartbeats 2000000 in
theorem fold_law (A : Option Addr) (cap : Nat) (xs : List Int) (w : World) (hcl : xs.length ≤ 9223372036854775807) (h : Sl w w.heap.size A (ints xs)) :
    Calls Try.prog 4 #[.slice A xs.length cap] w fun e w' => e = .returned (.bool true) ∧ Below w.heap.size w w' := by
  have hw0 : Hid (IsWord [2, 1]) := by show IsWord _; decide
  have hro : Hid (foldOf [2, 1] = [2, 1]) := by show _ = _; decide
  have hB := Nat.le_refl w.heap.size
  go_enter Try.func4, Try.ntmps4
  go_wp2_with fail
  refine (fold_ok (some ⟨w.heap.size, 0, none⟩) 2 [2, 1] _ (by simp) hw0.out (sl_new w (ints [2, 1]) _ (by simp))).mono ?_
  rintro e w1 ⟨A1, c1, rfl, hs1, hb1⟩
  rw [hro.out] at hs1 ⊢
  have hW1 : Below w.heap.size w w1 := below_call (below_lay (Below.refl _ _) hB _) hB hb1
  clear hb1
  go_wp2_with fail
  refine (same_b A1 (some ⟨w1.heap.size, 0, none⟩) c1 2 [2, 1] [2, 1] _ (by simp) (by simp) (hs1.keep (below_lay (Below.refl _ _) (Nat.le_refl _) _)) (sl_new w1 (ints [2, 1]) _ (by simp))).mono ?_
  rintro e w2 ⟨rfl, hb2⟩
  have hW2 : Below w.heap.size w w2 := below_call (below_lay hW1 hB _) hB hb2
  clear hb2 hs1 hW1
  simp only [decide_true]
  by_cases hp : wordChk xs = 0
  · have hg := Lib.hid (wordChk_zero hp)
    clear hp
    have hn := hg.out.1
    have HP : Hid (IsWord xs) := hg.out.2
    clear hg
    have HU := Lib.hid (unfold_word HP.out)
    have HFL := Lib.hid (foldOf_length xs)
    go_wp2_with fail
    refine (fold_ok A cap xs _ hn HP.out (h.now hW2 hB)).mono ?_
    rintro e w3 ⟨A3, c3, rfl, hs3, hb3⟩
    have hW3 : Below w.heap.size w w3 := below_call hW2 hB hb3
    clear hb3 hW2
    go_wp2_with fail
    refine (unfold_ok A cap xs _ hn HP.out (h.now hW3 hB)).mono ?_
    rintro e w4 ⟨A4, c4, rfl, hs4, hb4⟩
    have hW4 : Below w.heap.size w w4 := below_call hW3 hB hb4
    have hs3 := hs3.keep hb4
    clear hb4 hW3
    go_wp2_with fail
    refine (unfold_ok A3 c3 (foldOf xs) _ (by rw [HFL.out]; exact hn) (isWord_perm (foldOf_perm xs) HP.out) hs3).mono ?_
    rintro e w5 ⟨A5, c5, rfl, hs5, hb5⟩
    rw [unfold_fold xs] at hs5
    have hW5 : Below w.heap.size w w5 := below_call hW4 hB hb5
    have hs3 := hs3.keep hb5
    have hs4 := hs4.keep hb5
    clear hb5 hW4
    go_wp2_with fail
    have hcall : Calls Try.prog 17 #[.slice A4 xs.length c4] w5 fun e w' => ∃ A' c', e = .returned (.tuple #[.slice A' xs.length c', .int .i64 0]) ∧ Sl w' w'.heap.size A' (ints xs) ∧ Below w5.heap.size w5 w' := by
      have := fold_ok A4 c4 (unfoldOf xs) w5 (by rw [HU.out.1]; exact hn) HU.out.2 hs4
      rwa [fold_unfold HP.out, HU.out.1] at this
    refine hcall.mono ?_
    rintro e w6 ⟨A6, c6, rfl, hs6, hb6⟩
    have hW6 : Below w.heap.size w w6 := below_call hW5 hB hb6
    have hs3 := hs3.keep hb6
    have hs5 := hs5.keep hb6
    clear hb6 hW5 hcall
    go_wp2_with fail
    refine (falls_any A cap xs _ hn (h.now hW6 hB)).mono ?_
    rintro e w7 ⟨v7, rfl, hb7⟩
    have hW7 : Below w.heap.size w w7 := below_call hW6 hB hb7
    have hs3 := hs3.keep hb7
    have hs5 := hs5.keep hb7
    have hs6 := hs6.keep hb7
    clear hb7 hW6
    go_wp2_with fail
    have hcall : Calls Try.prog 15 #[.slice A5 (foldOf xs).length c5, .slice A xs.length cap] w7 fun e w' => e = .returned (.bool true) ∧ Below w7.heap.size w7 w' := by
      rw [HFL.out]
      have := same_b A5 A c5 cap xs xs w7 hcl hcl hs5 (h.now hW7 hB)
      rwa [decide_eq_true rfl] at this
    refine hcall.mono ?_
    rintro e w8 ⟨rfl, hb8⟩
    have hW8 : Below w.heap.size w w8 := below_call hW7 hB hb8
    have hs3 := hs3.keep hb8
    have hs6 := hs6.keep hb8
    clear hb8 hW7 hcall
    go_wp2_with fail
    have hcall : Calls Try.prog 15 #[.slice A6 xs.length c6, .slice A xs.length cap] w8 fun e w' => e = .returned (.bool true) ∧ Below w8.heap.size w8 w' := by
      have := same_b A6 A c6 cap xs xs w8 hcl hcl hs6 (h.now hW8 hB)
      rwa [decide_eq_true rfl] at this
    refine hcall.mono ?_
    rintro e w9 ⟨rfl, hb9⟩
    have hW9 : Below w.heap.size w w9 := below_call hW8 hB hb9
    have hs3 := hs3.keep hb9
    clear hb9 hW8 hcall
    go_wp2_with fail
    refine (wrong_any A3 c3 (foldOf xs) _ (by rw [HFL.out]; exact hn) hs3).mono ?_
    rintro e w10 ⟨rfl, hb10⟩
    have hW10 : Below w.heap.size w w10 := below_call hW9 hB hb10
    have hm := inv_foldOf xs
    unfold inv at hm
    rw [hm]
    have hd : (majOf xs == majOf xs) = true := by simp
    clear hm
    go_wp2
    go_ret
    exact ⟨rfl, hW10⟩
  · have HPN := Lib.hid hp
    clear hp
    go_wp2_with fail
    refine (fold_err A cap xs _ hcl HPN.out (h.now hW2 hB)).mono ?_
    rintro e w3 ⟨rfl, hb3⟩
    have hW3 : Below w.heap.size w w3 := below_call hW2 hB hb3
    obtain ⟨c, hc⟩ : ∃ c, c = wordChk xs := ⟨_, rfl⟩
    rw [← hc]
    have hd : (c != 0) = true := by rw [hc]; simpa using HPN.out
    have HC := Lib.hid hc
    clear hc
    go_wp2_with fail
    refine (unfold_err A cap xs _ hcl HPN.out (h.now hW3 hB)).mono ?_
    rintro e w4 ⟨rfl, hb4⟩
    have hW4 : Below w.heap.size w w4 := below_call hW3 hB hb4
    rw [← HC.out]
    go_wp2
    go_ret
    exact ⟨rfl, hW4⟩

end Go.Proofs.Ytmlmdklheiafpaa
