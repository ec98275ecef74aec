/-
  Plain: ranks of texts of brackets, there and back and in order; how many turns are good.
-/
import Derived.Test.YtdmpbbgcifodeaaPathM
namespace Go.Proofs.Ytdmpbbgcifodeaa

/-- How many endings of k brackets lead from an excess to nothing without going below it. -/
def bal : Nat → Nat → Nat
  | 0, e => if e = 0 then 1 else 0
  | k + 1, e => bal k (e + 1) + (if e = 0 then 0 else bal k (e - 1))
theorem bal_small : ∀ k e, bal k e ≤ 2 ^ k
  | 0, e => by simp only [bal]; split <;> simp
  | k + 1, e => by
    have h1 := bal_small k (e + 1)
    have h2 := bal_small k (e - 1)
    simp only [bal]
    rw [Nat.pow_succ]
    split <;> omega
theorem bal_far : ∀ k e, k < e → bal k e = 0
  | 0, e, h => by simp only [bal]; rw [if_neg (by omega)]
  | k + 1, e, h => by
    simp only [bal]
    rw [bal_far k (e + 1) (by omega), if_neg (by omega), bal_far k (e - 1) (by omega)]
theorem bal_odd : ∀ k e, 0 < bal k e → (k + e) % 2 = 0
  | 0, e, h => by
    simp only [bal] at h
    by_cases c : e = 0
    · subst c; rfl
    · rw [if_neg c] at h; omega
  | k + 1, e, h => by
    simp only [bal] at h
    by_cases c : 0 < bal k (e + 1)
    · have := bal_odd k (e + 1) c; omega
    · by_cases c0 : e = 0
      · rw [if_pos c0] at h; omega
      · rw [if_neg c0] at h
        have := bal_odd k (e - 1) (by omega); omega
theorem bal_le {k e : Nat} (h : 0 < bal k e) : e ≤ k := by
  apply Classical.byContradiction
  intro hn
  rw [bal_far k e (by omega)] at h; omega

/-- The rank of an ending, where it is a right one. -/
def rk : List UInt8 → Nat → Option Nat
  | [], e => if e = 0 then some 0 else none
  | c :: t, e => if c = 40 then rk t (e + 1) else if c = 41 ∧ 0 < e then (rk t (e - 1)).map (· + bal t.length (e + 1)) else none
/-- The ending of a rank. -/
def ur : Nat → Nat → Nat → List UInt8
  | 0, _, _ => []
  | k + 1, e, r => if r < bal k (e + 1) then 40 :: ur k (e + 1) r else 41 :: ur k (e - 1) (r - bal k (e + 1))

theorem rk_ur : ∀ (l : List UInt8) (e r : Nat), rk l e = some r → r < bal l.length e ∧ ur l.length e r = l
  | [], e, r, h => by
    simp only [rk] at h
    by_cases c : e = 0
    · subst c
      rw [if_pos rfl] at h
      obtain rfl : 0 = r := by simpa using h
      exact ⟨by simp [bal], rfl⟩
    · rw [if_neg c] at h; cases h
  | c :: t, e, r, h => by
    simp only [rk] at h
    by_cases c1 : c = 40
    · rw [if_pos c1] at h
      obtain ⟨h1, h2⟩ := rk_ur t (e + 1) r h
      refine ⟨?_, ?_⟩
      · rw [List.length_cons]; simp only [bal]; omega
      · rw [List.length_cons]; simp only [ur]; rw [if_pos h1, h2, c1]
    · rw [if_neg c1] at h
      by_cases c2 : c = 41 ∧ 0 < e
      · rw [if_pos c2] at h
        obtain ⟨r', h3, h4⟩ := Option.map_eq_some_iff.1 h
        obtain ⟨h1, h2⟩ := rk_ur t (e - 1) r' h3
        refine ⟨?_, ?_⟩
        · rw [List.length_cons]; simp only [bal]; rw [if_neg (by omega)]; omega
        · rw [List.length_cons]; simp only [ur]; rw [if_neg (by omega), ← h4, Nat.add_sub_cancel, h2, c2.1]
      · rw [if_neg c2] at h; cases h
theorem ur_length : ∀ k e r, (ur k e r).length = k
  | 0, _, _ => rfl
  | k + 1, e, r => by
    simp only [ur]; split
    · rw [List.length_cons, ur_length]
    · rw [List.length_cons, ur_length]
theorem ur_rk : ∀ (k e r : Nat), r < bal k e → rk (ur k e r) e = some r
  | 0, e, r, h => by
    simp only [bal] at h
    by_cases c : e = 0
    · subst c
      rw [if_pos rfl] at h
      obtain rfl : r = 0 := by omega
      rfl
    · rw [if_neg c] at h; omega
  | k + 1, e, r, h => by
    simp only [bal] at h
    simp only [ur]
    by_cases c : r < bal k (e + 1)
    · rw [if_pos c]; simp only [rk]; rw [if_pos trivial]; exact ur_rk k (e + 1) r c
    · rw [if_neg c]
      have he : e ≠ 0 := fun e0 => by rw [if_pos e0] at h; omega
      rw [if_neg he] at h
      simp only [rk]
      rw [if_neg (by decide), if_pos ⟨trivial, by omega⟩, ur_rk k (e - 1) _ (by omega), ur_length]
      simp; omega
/-- Text before text. -/
def lexLt : List UInt8 → List UInt8 → Bool
  | _, [] => false
  | [], _ :: _ => true
  | a :: s, b :: t => decide (a.toNat < b.toNat) || (a == b && lexLt s t)
theorem ur_lt : ∀ (k e r r' : Nat), r < r' → r' < bal k e → lexLt (ur k e r) (ur k e r') = true
  | 0, e, r, r', h, h' => by
    simp only [bal] at h'
    split at h' <;> omega
  | k + 1, e, r, r', h, h' => by
    simp only [bal] at h'
    simp only [ur]
    by_cases c' : r' < bal k (e + 1)
    · rw [if_pos c', if_pos (by omega)]
      simp only [lexLt]
      rw [ur_lt k (e + 1) r r' h c']; rfl
    · have he : e ≠ 0 := fun e0 => by rw [if_pos e0] at h'; omega
      rw [if_neg he] at h'
      by_cases c : r < bal k (e + 1)
      · rw [if_neg c', if_pos c]; simp only [lexLt]; rfl
      · rw [if_neg c', if_neg c]
        simp only [lexLt]
        rw [ur_lt k (e - 1) _ _ (by omega : r - bal k (e + 1) < r' - bal k (e + 1)) (by omega)]; rfl

/-- Good so far, k brackets on. -/
def okTo (l : List UInt8) (i : Nat) : Nat → Bool
  | 0 => true
  | k + 1 => okTo l i k && decide (exc l i < exc l (i + k + 1))
theorem okTo_iff (l : List UInt8) (i : Nat) : ∀ n, okTo l i n = true ↔ ∀ k, 1 ≤ k → k ≤ n → exc l i < exc l (i + k)
  | 0 => by simp only [okTo, true_iff]; intro k h1 h2; omega
  | n + 1 => by
    simp only [okTo, Bool.and_eq_true, decide_eq_true_eq]
    rw [okTo_iff l i n]
    constructor
    · rintro ⟨h1, h2⟩ k hk hk2
      by_cases c : k = n + 1
      · subst c; exact h2
      · exact h1 k hk (by omega)
    · intro h
      exact ⟨fun k h1 h2 => h k h1 (by omega), h (n + 1) (by omega) (Nat.le_refl _)⟩
/-- Where one may begin, of the first n places. -/
def turnsTo (l : List UInt8) : Nat → List Int
  | 0 => []
  | n + 1 => if okTo l n l.length = true then turnsTo l n ++ [(n : Int)] else turnsTo l n
theorem turnsTo_length (l : List UInt8) : ∀ n, (turnsTo l n).length = cnt (fun i => okTo l i l.length) n
  | 0 => rfl
  | n + 1 => by
    have ih := turnsTo_length l n
    simp only [turnsTo, cnt]
    split
    · rw [List.length_append, ih]; rfl
    · rw [ih]; rfl
theorem turnsTo_le (l : List UInt8) (n : Nat) : (turnsTo l n).length ≤ n := by rw [turnsTo_length]; exact cnt_le _ n
theorem cnt_none {P : Nat → Bool} : ∀ n, (∀ i, i < n → P i = false) → cnt P n = 0
  | 0, _ => rfl
  | n + 1, h => by
    simp only [cnt]
    rw [cnt_none n (fun i hi => h i (by omega)), h n (by omega)]; rfl
/-- A text of brackets. -/
def Brks (l : List UInt8) : Prop := ∀ c ∈ l, c = 40 ∨ c = 41
theorem exc_count {l : List UInt8} (hb : Brks l) : ∀ k, k ≤ l.length → exc l k = ((l.take k).count 40 : Int) - ((l.take k).count 41 : Int)
  | 0, _ => by simp [exc]
  | k + 1, h => by
    have ih := exc_count hb k (by omega)
    have hk : k < l.length := by omega
    have hm := hb _ (List.getElem_mem hk)
    have e1 : l.getD (k % l.length) 0 = l[k] := by rw [Nat.mod_eq_of_lt hk]; simp [hk]
    simp only [exc, brk]
    rw [ih, e1, take_snoc hk, List.count_append, List.count_append]
    rcases hm with e | e
    · rw [e]; simp; omega
    · rw [e]; simp; omega
theorem exc_all {l : List UInt8} (hb : Brks l) : exc l l.length = (l.count 40 : Int) - (l.count 41 : Int) := by
  have := exc_count hb l.length (Nat.le_refl _)
  rwa [List.take_length] at this
open Classical in
/-- As many places to begin as more open than close. -/
theorem turns_many {l : List UInt8} (hb : Brks l) : ((turnsTo l l.length).length : Int) = max 0 ((l.count 40 : Int) - (l.count 41 : Int)) := by
  rw [turnsTo_length, ← exc_all hb]
  by_cases hn : 0 < l.length
  · by_cases he : 0 < exc l l.length
    · rw [Int.max_eq_right (by omega), ← turns_count hn he (exc_step l) (exc_lap l)]
      congr 1
      refine cnt_congr (fun i _ => ?_)
      rw [Bool.eq_iff_iff, okTo_iff, decide_eq_true_iff]
      exact (good_window hn he (exc_lap l) i).symm
    · rw [Int.max_eq_left (by omega), cnt_none]
      · rfl
      · intro i _
        cases c : okTo l i l.length with
        | false => rfl
        | true => exact absurd ((okTo_iff l i _).1 c) (no_good hn (by omega) (exc_lap l) i)
  · have e : l = [] := List.eq_nil_of_length_eq_zero (by omega)
    subst e; rfl
end Go.Proofs.Ytdmpbbgcifodeaa
