/-
  Plain lists: the inversions of what is folded are what the descents come to.
-/
import Derived.Test.YtmlmdklheiafpaaDoorFoldM
namespace Go.Proofs.YtmlmdklheiafpaaDoor

/-- The places of descents among the first k. -/
def descTo (xs : List Int) : Nat → List Int
  | 0 => []
  | k + 1 => descTo xs k ++ (if 1 ≤ k ∧ xs.getD k 0 < xs.getD (k - 1) 0 then [(k : Int)] else [])
def majOf (xs : List Int) : Int := (descTo xs xs.length).sum

/-- How many of the first k are above the one at i. -/
def overAt (xs : List Int) (i k : Nat) : Nat := (xs.take k).countP (fun a => decide (xs.getD i 0 < a))
/-- How many pairs of the first i stand the wrong way round. -/
def wrongTo (xs : List Int) : Nat → Nat
  | 0 => 0
  | i + 1 => wrongTo xs i + overAt xs i i

def over (l : List Int) (x : Int) : Nat := l.countP (fun a => decide (x < a))
def under (l : List Int) (x : Int) : Nat := l.countP (fun a => decide (a ≤ x))
def inv (l : List Int) : Nat := wrongTo l l.length
/-- Pairs the wrong way round of one ahead and one behind. -/
def cross (a b : List Int) : Nat := (b.map (over a)).sum

theorem over_under (l : List Int) (x : Int) : over l x + under l x = l.length := by
  induction l with
  | nil => rfl
  | cons y l ih =>
    unfold over under at *
    rw [List.countP_cons, List.countP_cons, List.length_cons]
    by_cases h : x < y
    · have : ¬ y ≤ x := by omega
      simp only [h, this, decide_true, decide_false]
      simp; omega
    · have : y ≤ x := by omega
      simp only [h, this, decide_true, decide_false]
      simp; omega

theorem over_append (a b : List Int) (x : Int) : over (a ++ b) x = over a x + over b x := by simp [over, List.countP_append]
theorem under_append (a b : List Int) (x : Int) : under (a ++ b) x = under a x + under b x := by simp [under, List.countP_append]
theorem over_perm {a b : List Int} (h : a.Perm b) (x : Int) : over a x = over b x := h.countP_eq _
theorem over_all {l : List Int} {x : Int} (h : ∀ y ∈ l, x < y) : over l x = l.length := by
  unfold over; rw [List.countP_eq_length]; intro y hy; simpa using h y hy
theorem over_none {l : List Int} {x : Int} (h : ∀ y ∈ l, y ≤ x) : over l x = 0 := by
  unfold over; rw [List.countP_eq_zero]; intro y hy; have := h y hy; simp; omega
theorem under_all {l : List Int} {x : Int} (h : ∀ y ∈ l, y ≤ x) : under l x = l.length := by
  unfold under; rw [List.countP_eq_length]; intro y hy; simpa using h y hy

theorem cross_nil (a : List Int) : cross a [] = 0 := rfl
theorem cross_snoc (a b : List Int) (y : Int) : cross a (b ++ [y]) = cross a b + over a y := by simp [cross]
theorem cross_perm {a a' b b' : List Int} (h : a.Perm a') (h' : b.Perm b') : cross a b = cross a' b' := by
  unfold cross
  rw [show over a = over a' from funext (fun x => over_perm h x)]
  exact (h'.map _).sum_nat
theorem cross_one {y : Int} {b : List Int} : cross [y] b = b.countP (fun z => decide (z < y)) := by
  induction b using snoc_ind with
  | nil => rfl
  | snoc b z ih =>
    rw [cross_snoc, ih, List.countP_append]
    simp [over, List.countP_cons]

theorem wrongTo_prefix (l s : List Int) : ∀ i, i ≤ l.length → wrongTo (l ++ s) i = wrongTo l i
  | 0, _ => rfl
  | i + 1, h => by
    rw [wrongTo, wrongTo, wrongTo_prefix l s i (by omega)]
    unfold overAt
    rw [List.take_append_of_le_length (by omega)]
    have : (l ++ s).getD i 0 = l.getD i 0 := by rw [getD_get (by simp; omega), getD_get (by omega), List.getElem_append_left]
    rw [this]

theorem inv_snoc (l : List Int) (x : Int) : inv (l ++ [x]) = inv l + over l x := by
  unfold inv
  rw [List.length_append, List.length_singleton, wrongTo, wrongTo_prefix l [x] _ (Nat.le_refl _)]
  unfold overAt over
  have : (l ++ [x]).getD l.length 0 = x := by rw [getD_get (by simp), List.getElem_append_right (by omega)]; simp
  rw [List.take_left, this]

theorem inv_append (a b : List Int) : inv (a ++ b) = inv a + inv b + cross a b := by
  induction b using snoc_ind with
  | nil => simp [cross_nil, inv, wrongTo]
  | snoc b y ih => rw [← List.append_assoc, inv_snoc, ih, over_append, inv_snoc, cross_snoc]; omega

theorem inv_one (y : Int) : inv [y] = 0 := rfl

/-- The last one is no greater: as many inversions less as there are greater ones. -/
theorem inv_rot_low (x : Int) : ∀ rest blk, (∀ z ∈ blk, x < z) → (rest = [] → blk = []) → (rest ≠ [] → rest.getLastD 0 ≤ x) →
    inv (blk ++ rest) = inv (rot (fun y => decide (y ≤ x)) blk rest) + over (blk ++ rest) x
  | [], blk, hb, he, _ => by rw [he rfl]; simp [rot, over]
  | y :: rest, blk, hb, he, hl => by
    have hl' := hl (by simp)
    rw [List.getLastD_cons] at hl'
    rw [rot]
    by_cases hy : y ≤ x
    · rw [if_pos (by simpa using hy)]
      have ih := inv_rot_low x rest [] (by simp) (fun _ => rfl) (fun hne => by rw [getLastD_ne hne 0 y]; exact hl')
      have e1 : blk ++ y :: rest = (blk ++ [y]) ++ rest := by simp
      have e2 : inv (y :: blk) = inv blk := by
        rw [show y :: blk = [y] ++ blk from rfl, inv_append, inv_one, cross_one]
        have : blk.countP (fun z => decide (z < y)) = 0 := by
          rw [List.countP_eq_zero]; intro z hz; have := hb z hz; simp; omega
        omega
      have e3 : over blk y = blk.length := over_all (fun z hz => by have := hb z hz; omega)
      have e4 : over blk x = blk.length := over_all hb
      have e5 : over [y] x = 0 := over_none (by simpa using hy)
      have e6 : cross (blk ++ [y]) rest = cross (y :: blk) (rot (fun y => decide (y ≤ x)) [] rest) :=
        cross_perm (List.perm_append_singleton y blk) (by simpa using (rot_perm (fun y => decide (y ≤ x)) rest []).symm)
      rw [e1, inv_append, inv_snoc, inv_append (y :: blk), over_append, over_append, e2, e3, e4, e5, e6]
      simp only [List.nil_append] at ih
      omega
    · rw [if_neg (by simpa using hy)]
      have hne : rest ≠ [] := by
        intro e; rw [e] at hl'; simp at hl'; omega
      have ih := inv_rot_low x rest (blk ++ [y]) (fun z hz => by
        rcases List.mem_append.1 hz with hz | hz
        · exact hb z hz
        · simp at hz; omega) (fun e => absurd e hne) (fun _ => by rw [getLastD_ne hne 0 y]; exact hl')
      rw [show blk ++ y :: rest = (blk ++ [y]) ++ rest by simp]
      exact ih

/-- The last one is greater: as many inversions more as there are others. -/
theorem inv_rot_high (x : Int) : ∀ rest blk, (∀ z ∈ blk, z ≤ x) → (rest = [] → blk = []) → (rest ≠ [] → x < rest.getLastD 0) →
    inv (rot (fun y => !decide (y ≤ x)) blk rest) = inv (blk ++ rest) + under (blk ++ rest) x
  | [], blk, hb, he, _ => by rw [he rfl]; simp [rot, under]
  | y :: rest, blk, hb, he, hl => by
    have hl' := hl (by simp)
    rw [List.getLastD_cons] at hl'
    rw [rot]
    by_cases hy : y ≤ x
    · rw [if_neg (by simpa using hy)]
      have hne : rest ≠ [] := by
        intro e; rw [e] at hl'; simp at hl'; omega
      have ih := inv_rot_high x rest (blk ++ [y]) (fun z hz => by
        rcases List.mem_append.1 hz with hz | hz
        · exact hb z hz
        · simp at hz; omega) (fun e => absurd e hne) (fun _ => by rw [getLastD_ne hne 0 y]; exact hl')
      rw [show blk ++ y :: rest = (blk ++ [y]) ++ rest by simp]
      exact ih
    · rw [if_pos (by simpa using hy)]
      have ih := inv_rot_high x rest [] (by simp) (fun _ => rfl) (fun hne => by rw [getLastD_ne hne 0 y]; exact hl')
      have e1 : blk ++ y :: rest = (blk ++ [y]) ++ rest := by simp
      have e2 : inv (y :: blk) = inv blk + blk.length := by
        rw [show y :: blk = [y] ++ blk from rfl, inv_append, inv_one, cross_one]
        have : blk.countP (fun z => decide (z < y)) = blk.length := by
          rw [List.countP_eq_length]; intro z hz; have := hb z hz; simp; omega
        omega
      have e3 : over blk y = 0 := over_none (fun z hz => by have := hb z hz; omega)
      have e4 : under blk x = blk.length := under_all hb
      have e5 : under [y] x = 0 := by have : ¬ y ≤ x := hy; simp [under, this]
      have e6 : cross (blk ++ [y]) rest = cross (y :: blk) (rot (fun y => !decide (y ≤ x)) [] rest) :=
        cross_perm (List.perm_append_singleton y blk) (by simpa using (rot_perm (fun y => !decide (y ≤ x)) rest []).symm)
      rw [inv_append (y :: blk), e1, inv_append (blk ++ [y]), inv_snoc, under_append, under_append, e2, e3, e4, e5, e6]
      simp only [List.nil_append] at ih
      omega

theorem descTo_prefix (l s : List Int) : ∀ i, i ≤ l.length → descTo (l ++ s) i = descTo l i
  | 0, _ => rfl
  | i + 1, h => by
    rw [descTo, descTo, descTo_prefix l s i (by omega)]
    have e : ∀ j, j < l.length → (l ++ s).getD j 0 = l.getD j 0 := fun j hj => by
      rw [getD_get (by simp; omega), getD_get hj, List.getElem_append_left hj]
    rw [e i (by omega), e (i - 1) (by omega)]

theorem maj_snoc (l : List Int) (x : Int) : majOf (l ++ [x]) = majOf l + if l ≠ [] ∧ x < l.getLastD 0 then (l.length : Int) else 0 := by
  unfold majOf
  rw [List.length_append, List.length_singleton, descTo, descTo_prefix l [x] _ (Nat.le_refl _), List.sum_append]
  have e1 : (l ++ [x]).getD l.length 0 = x := by rw [getD_get (by simp), List.getElem_append_right (by omega)]; simp
  rw [e1]
  by_cases h : l = []
  · subst h; simp
  · have hp := List.length_pos_iff.2 h
    have e2 : (l ++ [x]).getD (l.length - 1) 0 = l.getLastD 0 := by
      rw [getD_get (by simp; omega), List.getElem_append_left (by omega), getLastD_get hp]
    rw [e2]
    by_cases hx : x < l.getLastD 0
    · rw [if_pos ⟨by omega, hx⟩, if_pos ⟨h, hx⟩]; simp
    · rw [if_neg (fun h => hx h.2), if_neg (fun h => hx h.2)]; simp

/-- MACMAHON'S, FOATA'S. -/
theorem inv_foldOf (w : List Int) : (inv (foldOf w) : Int) = majOf w := by
  induction w using snoc_ind with
  | nil => rfl
  | snoc w x ih =>
    rw [maj_snoc, ← ih, foldOf_snoc]
    have hl := foldOf_length w
    by_cases hw : w = []
    · subst hw; rfl
    · have hpos := List.length_pos_iff.2 hw
      have hv : foldOf w ≠ [] := by intro e; rw [e] at hl; simp at hl; omega
      have hlast : (foldOf w).getLastD 0 = w.getLastD 0 := by
        have h1 := List.dropLast_concat_getLast hw
        rw [← h1, foldOf_last]; simp
      unfold foldStep
      rw [if_neg hv, inv_snoc, over_perm (by simpa using rot_perm (side x ((foldOf w).getLastD 0)) (foldOf w) [])]
      have hou := over_under (foldOf w) x
      by_cases hx : x < w.getLastD 0
      · rw [if_pos ⟨hw, hx⟩]
        have es : side x ((foldOf w).getLastD 0) = (fun y => !decide (y ≤ x)) := by
          funext y
          have : ¬ w.getLastD 0 ≤ x := by omega
          unfold side; rw [hlast]; first | rw [decide_eq_true this] | rw [decide_eq_false this]
          cases decide (y ≤ x) <;> rfl
        have := inv_rot_high x (foldOf w) [] (by simp) (fun _ => rfl) (fun _ => by rw [hlast]; exact hx)
        rw [es, this]
        simp only [List.nil_append]
        omega
      · rw [if_neg (fun h => hx h.2)]
        have es : side x ((foldOf w).getLastD 0) = (fun y => decide (y ≤ x)) := by
          funext y
          have : w.getLastD 0 ≤ x := by omega
          unfold side; rw [hlast]; first | rw [decide_eq_true this] | rw [decide_eq_false this]
          cases decide (y ≤ x) <;> rfl
        have := inv_rot_low x (foldOf w) [] (by simp) (fun _ => rfl) (fun _ => by rw [hlast]; omega)
        rw [es]
        simp only [List.nil_append] at this
        omega

end Go.Proofs.YtmlmdklheiafpaaDoor
