/-
  Plain: of the turns of a word with excess e > 0 exactly e are good.
-/
import Derived.Test.YtdmpbbgcifodeaaCubeM
namespace Go.Proofs.Ytdmpbbgcifodeaa

/-- m is the least of S from i on. -/
def LeastFrom (S : Nat → Int) (i : Nat) (m : Int) : Prop := (∃ k, i ≤ k ∧ S k = m) ∧ ∀ k, i ≤ k → m ≤ S k
theorem LeastFrom.uniq {S : Nat → Int} {i : Nat} {m m' : Int} (h : LeastFrom S i m) (h' : LeastFrom S i m') : m = m' := by
  obtain ⟨⟨k, hk, e⟩, h2⟩ := h
  obtain ⟨⟨k', hk', e'⟩, h2'⟩ := h'
  have := h2 k' hk'
  have := h2' k hk
  omega
/-- Above where it was from then on. -/
def GoodAt (S : Nat → Int) (i : Nat) : Prop := ∀ k, i < k → S i < S k
theorem LeastFrom.good {S : Nat → Int} (hs : ∀ k, S (k + 1) ≤ S k + 1) {i : Nat} {m : Int} (h : LeastFrom S i m) (hg : GoodAt S i) : LeastFrom S (i + 1) (m + 1) := by
  obtain ⟨⟨k, hk, e⟩, h2⟩ := h
  have h3 := h2 i (Nat.le_refl _)
  have hki : k = i := by
    by_cases c : k = i
    · exact c
    · have := hg k (by omega); omega
  subst hki
  have h4 := hg (k + 1) (by omega)
  have h5 := hs k
  refine ⟨⟨k + 1, Nat.le_refl _, by omega⟩, fun j hj => ?_⟩
  have := hg j (by omega)
  omega
theorem LeastFrom.bad {S : Nat → Int} {i : Nat} {m : Int} (h : LeastFrom S i m) (hg : ¬ GoodAt S i) : LeastFrom S (i + 1) m := by
  obtain ⟨⟨k, hk, e⟩, h2⟩ := h
  refine ⟨?_, fun j hj => h2 j (by omega)⟩
  by_cases c : k = i
  · subst c
    apply Classical.byContradiction
    intro hn
    refine hg (fun j hj => ?_)
    have h3 := h2 j (by omega)
    by_cases c2 : S j = m
    · exact absurd ⟨j, hj, c2⟩ hn
    · omega
  · exact ⟨k, by omega, e⟩
open Classical in
theorem good_count {S : Nat → Int} (hs : ∀ k, S (k + 1) ≤ S k + 1) {m : Int} (h : LeastFrom S 0 m) : ∀ n, LeastFrom S n (m + (cnt (fun i => decide (GoodAt S i)) n : Nat))
  | 0 => by simpa [cnt] using h
  | n + 1 => by
    have ih := good_count hs h n
    by_cases c : GoodAt S n
    · have := ih.good hs c
      simp only [cnt, c, decide_true, if_true]
      have e : m + ((cnt (fun i => decide (GoodAt S i)) n + 1 : Nat) : Int) = m + (cnt (fun i => decide (GoodAt S i)) n : Nat) + 1 := by omega
      first | (rw [e]; exact this) | (simpa [e] using this)
    · have := ih.bad c
      simpa [cnt, c] using this
theorem lap {S : Nat → Int} {n : Nat} {e : Int} (hp : ∀ k, S (k + n) = S k + e) : ∀ q r, S (r + q * n) = S r + q * e
  | 0, r => by simp
  | q + 1, r => by
    have ih := lap hp q r
    have h1 := hp (r + q * n)
    rw [show r + (q + 1) * n = r + q * n + n by rw [Nat.succ_mul]; omega, h1, ih, Int.natCast_add, Int.add_mul]
    simp; omega
theorem least_upto (S : Nat → Int) : ∀ n, ∃ k, k ≤ n ∧ ∀ j, j ≤ n → S k ≤ S j
  | 0 => ⟨0, Nat.le_refl _, fun j hj => by rw [show j = 0 by omega]; exact Int.le_refl _⟩
  | n + 1 => by
    obtain ⟨k, hk, h⟩ := least_upto S n
    by_cases c : S k ≤ S (n + 1)
    · refine ⟨k, by omega, fun j hj => ?_⟩
      by_cases e : j = n + 1
      · rw [e]; exact c
      · exact h j (by omega)
    · refine ⟨n + 1, Nat.le_refl _, fun j hj => ?_⟩
      by_cases e : j = n + 1
      · rw [e]; exact Int.le_refl _
      · have := h j (by omega); omega
/-- Looking one lap ahead is enough. -/
theorem good_window {S : Nat → Int} {n : Nat} {e : Int} (hn : 0 < n) (he : 0 < e) (hp : ∀ k, S (k + n) = S k + e) (i : Nat) : GoodAt S i ↔ ∀ k, 1 ≤ k → k ≤ n → S i < S (i + k) := by
  constructor
  · intro h k h1 _; exact h (i + k) (by omega)
  · intro h k hk
    obtain ⟨d, rfl⟩ := Nat.exists_eq_add_of_lt hk
    have h1 := lap hp (d / n) (i + (d % n + 1))
    have h2 := h (d % n + 1) (by omega) (by have := Nat.mod_lt d hn; omega)
    have h3 : 0 ≤ ((d / n : Nat) : Int) * e := Int.mul_nonneg (Int.natCast_nonneg _) (by omega)
    have h4 := Nat.mod_add_div d n
    rw [Nat.mul_comm] at h4
    rw [show i + d + 1 = i + (d % n + 1) + d / n * n by omega]
    omega
/-- No turn is good where the whole does not rise. -/
theorem no_good {S : Nat → Int} {n : Nat} {e : Int} (hn : 0 < n) (he : e ≤ 0) (hp : ∀ k, S (k + n) = S k + e) (i : Nat) : ¬ ∀ k, 1 ≤ k → k ≤ n → S i < S (i + k) := fun h => by
  have := h n (by omega) (Nat.le_refl _)
  rw [hp] at this
  omega
open Classical in
/-- Of n turns as many are good as the excess tells. -/
theorem turns_count {S : Nat → Int} {n : Nat} {e : Int} (hn : 0 < n) (he : 0 < e) (hs : ∀ k, S (k + 1) ≤ S k + 1) (hp : ∀ k, S (k + n) = S k + e) : ((cnt (fun i => decide (GoodAt S i)) n : Nat) : Int) = e := by
  obtain ⟨k0, hk0, hmin⟩ := least_upto S n
  have hall : ∀ j, S k0 ≤ S j := fun j => by
    have h1 := lap hp (j / n) (j % n)
    rw [show j % n + j / n * n = j by rw [Nat.mul_comm]; exact Nat.mod_add_div j n] at h1
    have h2 := hmin (j % n) (Nat.le_of_lt (Nat.mod_lt j hn))
    have h3 : 0 ≤ ((j / n : Nat) : Int) * e := Int.mul_nonneg (Int.natCast_nonneg _) (by omega)
    omega
  have hl : LeastFrom S 0 (S k0) := ⟨⟨k0, Nat.zero_le _, rfl⟩, fun j _ => hall j⟩
  have h1 := good_count hs hl n
  have h2 : LeastFrom S n (S k0 + e) := by
    refine ⟨⟨k0 + n, by omega, hp k0⟩, fun j hj => ?_⟩
    obtain ⟨d, rfl⟩ := Nat.exists_eq_add_of_le hj
    rw [Nat.add_comm n d, hp]
    have := hall d
    omega
  have := h1.uniq h2
  omega
/-- What a bracket of the text, written over and over, counts. -/
def brk (l : List UInt8) (k : Nat) : Int := if l.getD (k % l.length) 0 = 40 then 1 else -1
/-- The excess behind k brackets. -/
def exc (l : List UInt8) : Nat → Int
  | 0 => 0
  | k + 1 => exc l k + brk l k
theorem exc_step (l : List UInt8) (k : Nat) : exc l (k + 1) ≤ exc l k + 1 := by
  simp only [exc, brk]; split <;> omega
theorem exc_lap (l : List UInt8) : ∀ k, exc l (k + l.length) = exc l k + exc l l.length
  | 0 => by simp [exc]
  | k + 1 => by
    rw [show k + 1 + l.length = k + l.length + 1 by omega]
    simp only [exc]
    rw [exc_lap l k, show brk l (k + l.length) = brk l k by unfold brk; rw [Nat.add_mod_right]]
    omega
end Go.Proofs.Ytdmpbbgcifodeaa
