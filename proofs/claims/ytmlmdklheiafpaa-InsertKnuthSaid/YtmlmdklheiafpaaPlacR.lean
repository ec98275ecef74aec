/-
  Plain: what is recorded while a word is put in.
-/
import Derived.Test.YtmlmdklheiafpaaPlacF
import Derived.Test.YtmlmdklheiafpaaTabl2W
namespace Go.Proofs.Ytmlmdklheiafpaa

/-- A letter laid at the end of a row. -/
def qadd (Q : List (List Int)) (r : Nat) (c : Int) : List (List Int) := if r = Q.length then Q ++ [[c]] else Q.set r (Q.getD r [] ++ [c])
def shadd (s : List Nat) (r : Nat) : List Nat := if r = s.length then s ++ [1] else s.set r (s.getD r 0 + 1)
def sh (T : List (List Int)) : List Nat := T.map List.length
theorem sh_length (T : List (List Int)) : (sh T).length = T.length := by simp [sh]
theorem sh_getD (T : List (List Int)) (r : Nat) : (sh T).getD r 0 = (T.getD r []).length := by
  unfold sh
  rw [List.getD_eq_getElem?_getD, List.getD_eq_getElem?_getD, List.getElem?_map]
  cases T[r]? <;> simp
theorem sh_qadd (Q : List (List Int)) (r : Nat) (c : Int) : sh (qadd Q r c) = shadd (sh Q) r := by
  unfold qadd shadd
  rw [sh_length]
  by_cases h : r = Q.length
  · rw [if_pos h, if_pos h]; simp [sh]
  · rw [if_neg h, if_neg h, sh_getD]
    unfold sh
    rw [List.map_set]; simp
theorem push1_length {r : List Int} {x : Int} : (push1 r x).1.length = r.length + if (push1 r x).2 = none then 1 else 0 := by
  have := push1_len (s := r) (x := x)
  cases e : (push1 r x).2 with
  | none => rw [e] at this; simp at this; simp; omega
  | some z => rw [e] at this; simp at this; simp; omega
theorem sh_ins1 : ∀ (T : List (List Int)) (x : Int), irow T x ≤ T.length ∧ sh (ins1 T x) = shadd (sh T) (irow T x)
  | [], x => ⟨Nat.le_refl _, rfl⟩
  | r :: t, x => by
    simp only [ins1, irow]
    cases e : (push1 r x).2 with
    | none =>
      refine ⟨Nat.zero_le _, ?_⟩
      have := push1_length (r := r) (x := x)
      rw [e] at this
      simp [shadd, sh, this]
    | some z =>
      have ih := sh_ins1 t z
      have h1 := push1_length (r := r) (x := x)
      rw [e] at h1
      refine ⟨by simp; exact ih.1, ?_⟩
      have h2 : sh ((push1 r x).1 :: ins1 t z) = r.length :: sh (ins1 t z) := by simp [sh, h1]
      show sh ((push1 r x).1 :: ins1 t z) = _
      rw [h2, ih.2]
      unfold shadd
      have h3 : sh (r :: t) = r.length :: sh t := rfl
      rw [h3]
      by_cases c : irow t z = (sh t).length
      · rw [if_pos c, if_pos (by simp [c])]; rfl
      · rw [if_neg c, if_neg (by simp; exact c)]; simp
/-- What is recorded of the first i letters. -/
def recQ (xs cs : List Int) : Nat → List (List Int)
  | 0 => []
  | i + 1 => qadd (recQ xs cs i) (irow (insW [] (xs.take i)) (xs.getD i 0)) (cs.getD i 0)
theorem insW_take {xs : List Int} {i : Nat} (h : i < xs.length) : insW [] (xs.take (i + 1)) = ins1 (insW [] (xs.take i)) (xs.getD i 0) := by
  rw [take_snoc h, insW_append, getD_get h]; rfl
theorem sh_rec {xs cs : List Int} : ∀ i, i ≤ xs.length → sh (recQ xs cs i) = sh (insW [] (xs.take i))
  | 0, _ => rfl
  | i + 1, h => by
    have ih := sh_rec (xs := xs) (cs := cs) i (by omega)
    simp only [recQ]
    rw [sh_qadd, ih, insW_take (by omega), (sh_ins1 _ _).2]
theorem rec_length {xs cs : List Int} {i : Nat} (h : i ≤ xs.length) : (recQ xs cs i).length = (insW [] (xs.take i)).length := by
  rw [← sh_length, sh_rec i h, sh_length]
theorem rec_row {xs cs : List Int} {i r : Nat} (h : i ≤ xs.length) : ((recQ xs cs i).getD r []).length = ((insW [] (xs.take i)).getD r []).length := by
  rw [← sh_getD, sh_rec i h, sh_getD]
theorem take_ok {xs : List Int} (hl : xs.length ≤ 40) (h : ∀ x ∈ xs, Lt x) (i : Nat) : FillOk (insW [] (xs.take i)) :=
  (fill_word (by rw [List.length_take]; omega) (fun x hx => h x (List.mem_of_mem_take hx))).1
end Go.Proofs.Ytmlmdklheiafpaa
