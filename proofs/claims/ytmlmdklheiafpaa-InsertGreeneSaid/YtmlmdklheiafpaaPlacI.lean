/-
  Plain: letters coloured one by one.
-/
import Derived.Test.YtmlmdklheiafpaaPlacH
namespace Go.Proofs.Ytmlmdklheiafpaa

def lastC (L : List (Int × Nat)) (t : Nat) : Int := (cls L t).getLastD 0
/-- The first i letters coloured; row: the last letter of each colour. -/
structure Colr (R : Int → Int → Prop) (k : Nat) (xs : List Int) (i : Nat) (L : List (Int × Nat)) (row : List Int) (n : Nat) : Prop where
  letters : L.map (·.1) = xs.take i
  proper : ∀ t, 0 < t → (cls L t).Pairwise R
  le : ∀ p ∈ L, p.2 ≤ k
  num : ncol L = n
  last : row = (List.range k).map (fun c => lastC L (c + 1))
theorem cls_snoc (L : List (Int × Nat)) (x : Int) (c t : Nat) : cls (L ++ [(x, c)]) t = cls L t ++ if c = t then [x] else [] := by
  rw [cls_append, cls_cons, cls_nil]
theorem Colr.start (R : Int → Int → Prop) (k : Nat) (xs : List Int) : Colr R k xs 0 [] (List.replicate k 0) 0 := by
  refine ⟨by simp, fun t _ => List.Pairwise.nil, fun p hp => by simp at hp, rfl, ?_⟩
  apply List.ext_getElem (by simp)
  intro j h1 h2
  rw [List.getElem_replicate, List.getElem_map]; rfl
theorem Colr.len {R : Int → Int → Prop} {k i n : Nat} {xs row : List Int} {L : List (Int × Nat)} (h : Colr R k xs i L row n) : row.length = k := by rw [h.last]; simp
theorem Colr.at_ {R : Int → Int → Prop} {k i n c : Nat} {xs row : List Int} {L : List (Int × Nat)} (h : Colr R k xs i L row n) (hc : c < k) : row.getD c 0 = lastC L (c + 1) := by
  rw [h.last, List.getD_eq_getElem?_getD]; simp [hc]
theorem Colr.mem {R : Int → Int → Prop} {k i n t : Nat} {xs row : List Int} {L : List (Int × Nat)} (h : Colr R k xs i L row n) {y : Int} (hy : y ∈ cls L t) : y ∈ xs := by
  have h1 : y ∈ L.map (·.1) := by
    obtain ⟨p, hp, e⟩ := List.mem_map.1 hy
    exact List.mem_map.2 ⟨p, (List.mem_filter.1 hp).1, e⟩
  rw [h.letters] at h1
  exact List.mem_of_mem_take h1
theorem Colr.count {R : Int → Int → Prop} {k i n : Nat} {xs row : List Int} {L : List (Int × Nat)} (h : Colr R k xs i L row n) : n ≤ xs.length := by
  have h1 : ncol L ≤ L.length := List.countP_le_length
  have h2 := congrArg List.length h.letters
  rw [List.length_map, List.length_take] at h2
  have := h.num
  omega
theorem Colr.skip {R : Int → Int → Prop} {k i n : Nat} {xs row : List Int} {L : List (Int × Nat)} (h : Colr R k xs i L row n) (hi : i < xs.length) : Colr R k xs (i + 1) (L ++ [(xs.getD i 0, 0)]) row n := by
  have hz : ∀ t, 0 < t → cls (L ++ [(xs.getD i 0, 0)]) t = cls L t := fun t ht => by rw [cls_snoc, if_neg (by omega), List.append_nil]
  refine ⟨by rw [List.map_append, h.letters, take_snoc hi, getD_get hi]; rfl, fun t ht => by rw [hz t ht]; exact h.proper t ht, fun p hp => ?_, by rw [ncol_append, h.num]; rfl, ?_⟩
  · rcases List.mem_append.1 hp with e | e
    · exact h.le p e
    · simp at e; rw [e]; exact Nat.zero_le _
  · rw [h.last]
    refine List.map_congr_left (fun c _ => ?_)
    unfold lastC; rw [hz _ (by omega)]
theorem Colr.take {R : Int → Int → Prop} {k i n c : Nat} {xs row : List Int} {L : List (Int × Nat)} (h : Colr R k xs i L row n) (hi : i < xs.length) (hc : c < k) (hr : ∀ y ∈ cls L (c + 1), R y (xs.getD i 0)) : Colr R k xs (i + 1) (L ++ [(xs.getD i 0, c + 1)]) (row.set c (xs.getD i 0)) (n + 1) := by
  have hz : ∀ t, t ≠ c + 1 → cls (L ++ [(xs.getD i 0, c + 1)]) t = cls L t := fun t ht => by rw [cls_snoc, if_neg (fun e => ht e.symm), List.append_nil]
  have ho : cls (L ++ [(xs.getD i 0, c + 1)]) (c + 1) = cls L (c + 1) ++ [xs.getD i 0] := by rw [cls_snoc, if_pos rfl]
  refine ⟨by rw [List.map_append, h.letters, take_snoc hi, getD_get hi]; rfl, fun t ht => ?_, fun p hp => ?_, by rw [ncol_append, h.num]; rfl, ?_⟩
  · by_cases e : t = c + 1
    · rw [e, ho, List.pairwise_append]
      exact ⟨h.proper _ (by omega), List.pairwise_singleton _ _, fun a ha b hb => by simp at hb; rw [hb]; exact hr a ha⟩
    · rw [hz t e]; exact h.proper t ht
  · rcases List.mem_append.1 hp with e | e
    · exact h.le p e
    · simp at e; rw [e]; exact hc
  · rw [h.last]
    apply List.ext_getElem (by simp)
    intro j h1 h2
    rw [List.getElem_set]
    by_cases e : c = j
    · subst e
      rw [if_pos rfl, List.getElem_map, List.getElem_range]
      unfold lastC
      rw [ho]
      simp
    · rw [if_neg e, List.getElem_map, List.getElem_range, List.getElem_map, List.getElem_range]
      unfold lastC
      rw [hz _ (by omega)]
theorem Colr.can {R : Int → Int → Prop} {k i n : Nat} {xs row : List Int} {L : List (Int × Nat)} (h : Colr R k xs i L row n) : Can R k xs n := by
  have c1 : ∀ (l : List Int) (t : Nat), 0 < t → cls (l.map (fun x => (x, 0))) t = [] := fun l t ht0 => by
    induction l with
    | nil => rfl
    | cons a l ih => rw [List.map_cons, cls_cons, if_neg (by show ¬ 0 = t; omega), ih]
  have c3 : ∀ (l : List Int), ncol (l.map (fun x => (x, 0))) = 0 := fun l => by
    induction l with
    | nil => rfl
    | cons a l ih => rw [List.map_cons, ncol_cons, ih]; rfl
  refine ⟨L ++ (xs.drop i).map (fun x => (x, 0)), ?_, fun t ht => ?_, fun p hp => ?_, by rw [ncol_append, c3, h.num]; rfl⟩
  · rw [List.map_append, h.letters, List.map_map]
    have : (List.map ((fun x : Int × Nat => x.1) ∘ fun x => (x, 0)) (xs.drop i)) = xs.drop i := by simp [Function.comp_def]
    rw [this, List.take_append_drop]
  · rw [cls_append, c1 _ _ ht, List.append_nil]; exact h.proper t ht
  · rcases List.mem_append.1 hp with e | e
    · exact h.le p e
    · obtain ⟨x, _, rfl⟩ := List.mem_map.1 e; exact Nat.zero_le _
theorem last_up {l : List Int} {x : Int} (h : l.Pairwise (· ≤ ·)) (hx : l.getLastD 0 ≤ x) : ∀ y ∈ l, y ≤ x := fun y hy => by
  cases e : l.reverse with
  | nil => simp at e; rw [e] at hy; simp at hy
  | cons z m =>
    have e2 : l = m.reverse ++ [z] := by rw [← List.reverse_reverse l, e]; simp
    rw [e2] at h hx hy
    have hz : z ≤ x := by simpa using hx
    rcases List.mem_append.1 hy with e3 | e3
    · have := (List.pairwise_append.1 h).2.2 y e3 z (by simp); omega
    · simp at e3; omega
theorem last_dn {l : List Int} {x : Int} (h : l.Pairwise (fun a b => b < a)) (hp : ∀ y ∈ l, 1 ≤ y) (hx : l.getLastD 0 = 0 ∨ x < l.getLastD 0) : ∀ y ∈ l, x < y := fun y hy => by
  cases e : l.reverse with
  | nil => simp at e; rw [e] at hy; simp at hy
  | cons z m =>
    have e2 : l = m.reverse ++ [z] := by rw [← List.reverse_reverse l, e]; simp
    rw [e2] at h hx hy hp
    have h1 := hp z (by simp)
    have hz : z = 0 ∨ x < z := by simpa using hx
    rcases List.mem_append.1 hy with e3 | e3
    · have := (List.pairwise_append.1 h).2.2 y e3 z (by simp); omega
    · simp at e3; omega
theorem Colr.up {k i n c : Nat} {xs row : List Int} {L : List (Int × Nat)} (h : Colr (· ≤ ·) k xs i L row n) (hi : i < xs.length) (hc : c < k) (hx : row.getD c 0 ≤ xs.getD i 0) : ∃ L', Colr (· ≤ ·) k xs (i + 1) L' (row.set c (xs.getD i 0)) (n + 1) := by
  rw [h.at_ hc] at hx
  exact ⟨_, h.take hi hc (last_up (h.proper _ (by omega)) hx)⟩
theorem Colr.dn {k i n c : Nat} {xs row : List Int} {L : List (Int × Nat)} (h : Colr (fun a b => b < a) k xs i L row n) (hp : ∀ x ∈ xs, Lt x) (hi : i < xs.length) (hc : c < k) (hx : row.getD c 0 = 0 ∨ xs.getD i 0 < row.getD c 0) : ∃ L', Colr (fun a b => b < a) k xs (i + 1) L' (row.set c (xs.getD i 0)) (n + 1) := by
  rw [h.at_ hc] at hx
  exact ⟨_, h.take hi hc (last_dn (h.proper _ (by omega)) (fun y hy => (hp y (h.mem hy)).1) hx)⟩
end Go.Proofs.Ytmlmdklheiafpaa
