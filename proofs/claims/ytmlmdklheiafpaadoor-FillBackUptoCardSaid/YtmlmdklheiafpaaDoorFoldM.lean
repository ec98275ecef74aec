/-
  Plain lists: Foata's folding: there and back; its inversions are what the descents come to.
-/
import Derived.Test.YtmlmdklheiafpaaDoorFinite
namespace Go.Proofs.YtmlmdklheiafpaaDoor

/-- Cut behind each that is marked; each piece's last one goes to its front. -/
def rot (p : Int → Bool) : List Int → List Int → List Int
  | blk, [] => blk
  | blk, y :: rest => if p y then (y :: blk) ++ rot p [] rest else rot p (blk ++ [y]) rest

/-- Cut ahead of each that is marked; each piece's first one goes to its end. y: the piece's first one; blk: what stands behind it so far. -/
def unrot (p : Int → Bool) : Int → List Int → List Int → List Int
  | y, blk, [] => blk ++ [y]
  | y, blk, z :: rest => if p z then (blk ++ [y]) ++ unrot p z [] rest else unrot p y (blk ++ [z]) rest

def unrotAll (p : Int → Bool) : List Int → List Int
  | [] => []
  | y :: rest => unrot p y [] rest

/-- Is it on the same side of x as e? -/
def side (x e : Int) (y : Int) : Bool := decide (y ≤ x) == decide (e ≤ x)

def foldStep (v : List Int) (x : Int) : List Int := (if v = [] then [] else rot (side x (v.getLastD 0)) [] v) ++ [x]
def foldOf (w : List Int) : List Int := w.foldl foldStep []

/-- The n-th is what was put last; what is ahead of it is unrolled. -/
def unfoldN : Nat → List Int → List Int
  | 0, v => v
  | n + 1, v => unfoldN n (unrotAll (side (v.getD (n + 1) 0) (v.getD 0 0)) (v.take (n + 1)) ++ v.drop (n + 1))
def unfoldOf (w : List Int) : List Int := unfoldN (w.length - 1) w

theorem rot_perm (p : Int → Bool) : ∀ rest blk, (rot p blk rest).Perm (blk ++ rest)
  | [], blk => by simp [rot]
  | y :: rest, blk => by
    rw [rot]
    split
    · refine ((rot_perm p rest []).append_left (y :: blk)).trans ?_
      simp only [List.nil_append, List.cons_append]
      exact List.perm_middle.symm
    · refine (rot_perm p rest (blk ++ [y])).trans ?_
      simp

theorem rot_length (p : Int → Bool) (blk rest : List Int) : (rot p blk rest).length = blk.length + rest.length := by
  rw [(rot_perm p rest blk).length_eq, List.length_append]

theorem unrot_perm (p : Int → Bool) : ∀ rest y blk, (unrot p y blk rest).Perm (y :: blk ++ rest)
  | [], y, blk => by
    simp only [unrot, List.append_nil]
    exact (List.perm_append_singleton y blk)
  | z :: rest, y, blk => by
    rw [unrot]
    split
    · refine ((unrot_perm p rest z []).append_left (blk ++ [y])).trans ?_
      simp only [List.append_assoc, List.cons_append, List.nil_append]
      exact List.perm_middle
    · refine (unrot_perm p rest y (blk ++ [z])).trans ?_
      simp

theorem unrotAll_length (p : Int → Bool) (l : List Int) : (unrotAll p l).length = l.length := by
  cases l with
  | nil => rfl
  | cons y l => rw [unrotAll, (unrot_perm p l y []).length_eq]; simp

theorem unrot_pass (p : Int → Bool) (z : Int) (m : List Int) : ∀ (b q : List Int), (∀ u ∈ b, p u = false) → unrot p z q (b ++ m) = unrot p z (q ++ b) m
  | [], q, _ => by simp
  | u :: b, q, h => by
    rw [List.cons_append, unrot, if_neg (by simp [h u (by simp)]), unrot_pass p z m b _ (fun t ht => h t (List.mem_cons_of_mem _ ht))]
    simp

/-- Unrolled again. -/
theorem unrot_rot (p : Int → Bool) : ∀ rest blk y, (∀ z ∈ blk, p z = false) → (rest = [] → blk = []) → (rest ≠ [] → p (rest.getLastD 0) = true) → p y = true →
    ∀ pre, (∀ z ∈ pre, p z = false) → unrot p y pre (rot p blk rest) = (if rest = [] then pre ++ [y] else pre ++ [y] ++ (blk ++ rest))
  | [], blk, y, hb, he, hl, hy, pre, hpre => by
    rw [he rfl]; simp [rot, unrot]
  | z :: rest, blk, y, hb, he, hl, hy, pre, hpre => by
    rw [if_neg (by simp), rot]
    split
    · rename_i hz
      rw [List.cons_append, unrot, if_pos hz, unrot_pass p z _ blk [] hb]
      have ih := unrot_rot p rest [] z (by simp) (fun _ => rfl) (fun hne => by
        have := hl (by simp)
        rw [List.getLastD_cons, getLastD_ne hne z 0] at this
        exact this) hz ([] ++ blk) (by simpa using hb)
      rw [ih]
      by_cases hr : rest = []
      · subst hr; simp
      · rw [if_neg hr]; simp
    · rename_i hz
      have hz' : p z = false := by simpa using hz
      have hne : rest ≠ [] := by
        intro e
        have := hl (by simp)
        rw [e] at this
        simp at this
        rw [this] at hz'; cases hz'
      have ih := unrot_rot p rest (blk ++ [z]) y (fun t ht => by
        rcases List.mem_append.1 ht with ht | ht
        · exact hb t ht
        · simp at ht; rw [ht]; exact hz') (fun e => absurd e hne) (fun _ => by
        have := hl (by simp)
        rw [List.getLastD_cons, getLastD_ne hne z 0] at this
        exact this) hy pre hpre
      rw [ih, if_neg hne]; simp

theorem unrotAll_rot (p : Int → Bool) : ∀ rest blk, (∀ z ∈ blk, p z = false) → rest ≠ [] → p (rest.getLastD 0) = true → unrotAll p (rot p blk rest) = blk ++ rest
  | [], blk, _, h, _ => absurd rfl h
  | y :: rest, blk, hb, _, hl => by
    rw [List.getLastD_cons] at hl
    rw [rot]
    split
    · rename_i hy
      rw [List.cons_append, unrotAll, unrot_pass p y _ blk [] hb, List.nil_append,
        unrot_rot p rest [] y (by simp) (fun _ => rfl) (fun hne => by rw [getLastD_ne hne 0 y]; exact hl) hy blk hb]
      by_cases hr : rest = []
      · subst hr; simp
      · rw [if_neg hr]; simp
    · rename_i hy
      have hy' : p y = false := by simpa using hy
      have hne : rest ≠ [] := by
        intro e
        rw [e] at hl
        simp at hl
        rw [hl] at hy'; cases hy'
      rw [unrotAll_rot p rest (blk ++ [y]) (fun t ht => by
        rcases List.mem_append.1 ht with ht | ht
        · exact hb t ht
        · simp at ht; rw [ht]; exact hy') hne (by rw [getLastD_ne hne 0 y]; exact hl)]
      simp

/-- What is rolled begins with one that is marked. -/
theorem rot_head (p : Int → Bool) : ∀ rest blk, rest ≠ [] → p (rest.getLastD 0) = true → p ((rot p blk rest).getD 0 0) = true
  | [], blk, h, _ => absurd rfl h
  | y :: rest, blk, _, hl => by
    rw [List.getLastD_cons] at hl
    rw [rot]
    split
    · rename_i hy; simpa using hy
    · rename_i hy
      have hne : rest ≠ [] := by
        intro e
        rw [e] at hl
        simp at hl
        rw [hl] at hy; simp at hy
      exact rot_head p rest (blk ++ [y]) hne (by rw [getLastD_ne hne 0 y]; exact hl)

theorem foldOf_snoc (w : List Int) (x : Int) : foldOf (w ++ [x]) = foldStep (foldOf w) x := by simp [foldOf]

theorem foldStep_length (v : List Int) (x : Int) : (foldStep v x).length = v.length + 1 := by
  unfold foldStep
  by_cases h : v = []
  · simp [h]
  · simp [h, rot_length]

theorem foldOf_length (w : List Int) : (foldOf w).length = w.length := by
  induction w using snoc_ind with
  | nil => rfl
  | snoc w x ih => rw [foldOf_snoc, foldStep_length, ih]; simp

theorem foldStep_perm (v : List Int) (x : Int) : (foldStep v x).Perm (v ++ [x]) := by
  unfold foldStep
  by_cases h : v = []
  · simp [h]
  · rw [if_neg h]
    exact (rot_perm _ v []).append_right [x]

theorem foldOf_perm (w : List Int) : (foldOf w).Perm w := by
  induction w using snoc_ind with
  | nil => exact List.Perm.refl _
  | snoc w x ih =>
    rw [foldOf_snoc]
    exact (foldStep_perm _ x).trans (ih.append_right [x])

theorem foldOf_last (w : List Int) (x : Int) : (foldOf (w ++ [x])).getLastD 0 = x := by
  rw [foldOf_snoc, foldStep]; simp

/-- What stands behind is not touched. -/
theorem unfoldN_append : ∀ (n : Nat) (v s : List Int), n < v.length → unfoldN n (v ++ s) = unfoldN n v ++ s
  | 0, v, s, _ => rfl
  | n + 1, v, s, h => by
    rw [unfoldN, unfoldN]
    have e1 : (v ++ s).getD (n + 1) 0 = v.getD (n + 1) 0 := by
      rw [getD_get (by simp; omega), getD_get h, List.getElem_append_left h]
    have e2 : (v ++ s).getD 0 0 = v.getD 0 0 := by
      rw [getD_get (by simp; omega), getD_get (by omega), List.getElem_append_left]
    rw [e1, e2, List.take_append_of_le_length (by omega), List.drop_append_of_le_length (by omega), ← List.append_assoc]
    exact unfoldN_append n _ s (by simp [unrotAll_length]; omega)

theorem side_self (x e : Int) : side x e e = true := by simp [side]

/-- There. -/
theorem unfold_fold (w : List Int) : unfoldOf (foldOf w) = w := by
  induction w using snoc_ind with
  | nil => rfl
  | snoc w x ih =>
    rw [foldOf_snoc]
    have hl := foldOf_length w
    unfold unfoldOf at ih ⊢
    rw [foldStep_length, hl]
    by_cases hw : w = []
    · subst hw; rfl
    · have hpos := List.length_pos_iff.2 hw
      obtain ⟨n, hn⟩ : ∃ n, w.length = n + 1 := ⟨w.length - 1, by omega⟩
      have hv : foldOf w ≠ [] := by intro e; rw [e] at hl; simp at hl; omega
      have hstep : foldStep (foldOf w) x = rot (side x ((foldOf w).getLastD 0)) [] (foldOf w) ++ [x] := by unfold foldStep; rw [if_neg hv]
      have hrl : (rot (side x ((foldOf w).getLastD 0)) [] (foldOf w)).length = n + 1 := by rw [rot_length]; simp; omega
      have hhd := rot_head (side x ((foldOf w).getLastD 0)) (foldOf w) [] hv (side_self _ _)
      have hun := unrotAll_rot (side x ((foldOf w).getLastD 0)) (foldOf w) [] (by simp) hv (side_self _ _)
      rw [hstep]
      generalize hR : rot (side x ((foldOf w).getLastD 0)) [] (foldOf w) = R at *
      have hlast : (R ++ [x]).getD (n + 1) 0 = x := by
        rw [getD_get (by simp; omega), List.getElem_append_right (by omega)]
        simp
      have htake : (R ++ [x]).take (n + 1) = R := List.take_left' hrl
      have hdrop : (R ++ [x]).drop (n + 1) = [x] := List.drop_left' hrl
      have hhead : (R ++ [x]).getD 0 0 = R.getD 0 0 := by
        rw [getD_get (by simp), getD_get (by omega), List.getElem_append_left (by omega)]
      have hside : side x ((R ++ [x]).getD 0 0) = side x ((foldOf w).getLastD 0) := by
        rw [hhead]
        generalize R.getD 0 0 = z at hhd
        funext y
        unfold side at hhd ⊢
        have : decide (z ≤ x) = decide ((foldOf w).getLastD 0 ≤ x) := by simpa using hhd
        rw [this]
      rw [show w.length + 1 - 1 = n + 1 by omega, unfoldN, hlast, hside, htake, hdrop, hun, List.nil_append, unfoldN_append _ _ _ (by omega)]
      rw [hl, hn] at ih
      simp only [Nat.add_sub_cancel] at ih
      rw [ih]

/-- And back. -/
theorem fold_unfold {v : List Int} (hv : ∀ x ∈ v, 1 ≤ x ∧ x ≤ 99) : foldOf (unfoldOf v) = v := by
  obtain ⟨w, _, _, _, e⟩ := words_onto (upTo 99) (nodup_upTo 99) v.length (fun _ => True) foldOf
    (fun w h1 h2 _ => ⟨by rw [foldOf_length]; exact h1, fun x hx => h2 x ((foldOf_perm w).mem_iff.1 hx), trivial⟩)
    (fun u w _ _ _ _ _ _ e => by rw [← unfold_fold u, e, unfold_fold]) v rfl (fun x hx => mem_upTo.2 (hv x hx)) trivial
  rw [← e, unfold_fold]

theorem unfold_word {v : List Int} (hv : ∀ x ∈ v, 1 ≤ x ∧ x ≤ 99) : (unfoldOf v).length = v.length ∧ ∀ x ∈ unfoldOf v, 1 ≤ x ∧ x ≤ 99 := by
  have e := fold_unfold hv
  constructor
  · rw [← foldOf_length, e]
  · intro x hx
    exact hv x (by rw [← e]; exact (foldOf_perm _).mem_iff.2 hx)

end Go.Proofs.YtmlmdklheiafpaaDoor
