/-
  Plain: a number's numeral read again; how long it is.
-/
import Derived.Lib.ItoaNum
import Derived.Lib.Atoi
namespace Go.Proofs.YtidnpmkdajicjaaDoor
open Go.Proofs

theorem digit_of {d : Nat} (h : d < 10) : Lib.digitVal (UInt8.ofNat (48 + d)) = some d := by
  match d, h with
  | 0, _ => rfl
  | 1, _ => rfl
  | 2, _ => rfl
  | 3, _ => rfl
  | 4, _ => rfl
  | 5, _ => rfl
  | 6, _ => rfl
  | 7, _ => rfl
  | 8, _ => rfl
  | 9, _ => rfl
theorem decFrom_app : ∀ (l m : List UInt8) (acc n : Nat), Lib.decFrom acc l = some n → Lib.decFrom acc (l ++ m) = Lib.decFrom n m
  | [], _, acc, n, h => by simp [Lib.decFrom] at h; subst h; rfl
  | b :: l, m, acc, n, h => by
    simp only [List.cons_append, Lib.decFrom] at h ⊢
    match hd : Lib.digitVal b, h with
    | some d, h => exact decFrom_app l m _ n h
theorem decFrom_digits : ∀ (n u : Nat), u ≤ n → Lib.decFrom 0 (Lib.decDigits u) = some u
  | 0, u, h => by
    obtain rfl : u = 0 := by omega
    rw [Lib.decDigits, dif_pos (by omega)]; rfl
  | n + 1, u, h => by
    rw [Lib.decDigits]
    by_cases c : u < 10
    · rw [dif_pos c]
      simp only [Lib.decFrom, digit_of c]
      simp
    · rw [dif_neg c, decFrom_app _ _ _ _ (decFrom_digits n (u / 10) (by omega))]
      simp only [Lib.decFrom, digit_of (show u % 10 < 10 by omega)]
      congr 1
      omega
theorem digits_ne (u : Nat) : Lib.decDigits u ≠ [] := by
  rw [Lib.decDigits]
  split <;> simp
theorem digits_low : ∀ (n u : Nat), u ≤ n → ∀ b ∈ Lib.decDigits u, 48 ≤ b.toNat ∧ b.toNat ≤ 57
  | 0, u, h => by
    obtain rfl : u = 0 := by omega
    rw [Lib.decDigits, dif_pos (by omega)]
    intro b hb
    simp only [List.mem_singleton] at hb
    subst hb; decide
  | n + 1, u, h => by
    rw [Lib.decDigits]
    have one : ∀ d, d < 10 → 48 ≤ (UInt8.ofNat (48 + d)).toNat ∧ (UInt8.ofNat (48 + d)).toNat ≤ 57 := by
      intro d hd
      simp; omega
    by_cases c : u < 10
    · rw [dif_pos c]
      intro b hb
      simp only [List.mem_singleton] at hb
      subst hb; exact one u c
    · rw [dif_neg c]
      intro b hb
      rcases List.mem_append.1 hb with hb | hb
      · exact digits_low n (u / 10) (by omega) b hb
      · simp only [List.mem_singleton] at hb
        subst hb; exact one _ (by omega)
theorem atoi_digits (u : Nat) : Lib.atoi (Lib.decDigits u) = some (u : Int) := by
  have h := decFrom_digits u u (Nat.le_refl _)
  have hl := digits_low u u (Nat.le_refl _)
  match hd : Lib.decDigits u, digits_ne u with
  | b :: r, _ =>
    rw [hd] at h hl
    have hb := hl b (by simp)
    have n1 : ¬ (b == 45) = true := by
      intro e
      have : b = 45 := by simpa using e
      subst this; simp at hb
    have n2 : ¬ (b == 43) = true := by
      intro e
      have : b = 43 := by simpa using e
      subst this; simp at hb
    unfold Lib.atoi
    simp only [n1, n2, Bool.false_eq_true, if_false]
    unfold Lib.decNat
    simp [h]
theorem digits_len : ∀ (k u : Nat), u < 10 ^ (k + 1) → (Lib.decDigits u).length ≤ k + 1
  | 0, u, h => by
    rw [Lib.decDigits, dif_pos (by simpa using h)]; simp
  | k + 1, u, h => by
    rw [Lib.decDigits]
    by_cases c : u < 10
    · rw [dif_pos c]; simp
    · rw [dif_neg c, List.length_append]
      have : u / 10 < 10 ^ (k + 1) := by
        rw [Nat.pow_succ] at h
        omega
      have := digits_len k (u / 10) this
      simp; omega
theorem digits_inj {u v : Nat} (h : Lib.decDigits u = Lib.decDigits v) : u = v := by
  have h1 := decFrom_digits u u (Nat.le_refl _)
  have h2 := decFrom_digits v v (Nat.le_refl _)
  rw [h, h2] at h1
  exact (Option.some.inj h1).symm
end Go.Proofs.YtidnpmkdajicjaaDoor
