/-
  Plain: a longest subsequence that doesn't fall, as the house finds it; it has as many letters as the first row.
-/
import Derived.Test.YtmlmdklheiafpaaPlacG
namespace Go.Proofs.Ytmlmdklheiafpaa

def mx : Int → List Int → List Nat → Nat
  | a, b :: t, f :: fs => max (if a ≤ b then f else 0) (mx a t fs)
  | _, _, _ => 0
/-- How long one is at most that begins at each place. -/
def frs : List Int → List Nat
  | [] => []
  | a :: t => (1 + mx a t (frs t)) :: frs t
theorem frs_length : ∀ xs : List Int, (frs xs).length = xs.length
  | [] => rfl
  | a :: t => by simp [frs, frs_length t]
theorem frs_drop : ∀ (xs : List Int) (i : Nat), (frs xs).drop i = frs (xs.drop i)
  | _, 0 => by simp
  | [], i + 1 => by simp [frs]
  | a :: t, i + 1 => by simp only [frs, List.drop_succ_cons]; exact frs_drop t i
def fr (xs : List Int) (i : Nat) : Nat := (frs xs).getD i 0
theorem mx_le {a : Int} : ∀ {t : List Int} {fs : List Nat} {k : Nat} {b : Int} {f : Nat}, t[k]? = some b → fs[k]? = some f → a ≤ b → f ≤ mx a t fs
  | [], _, _, _, _, h, _, _ => by simp at h
  | _ :: _, [], _, _, _, _, h, _ => by simp at h
  | b0 :: t, f0 :: fs, 0, b, f, h1, h2, h3 => by
    have e1 : b0 = b := by simpa using h1
    have e2 : f0 = f := by simpa using h2
    simp only [mx]
    rw [e1, e2, if_pos h3]; omega
  | b0 :: t, f0 :: fs, k + 1, b, f, h1, h2, h3 => by
    have := mx_le (a := a) (t := t) (fs := fs) (k := k) (by simpa using h1) (by simpa using h2) h3
    simp only [mx]; omega
theorem mx_at {a : Int} : ∀ {t : List Int} {fs : List Nat}, 0 < mx a t fs → ∃ (k : Nat) (b : Int), t[k]? = some b ∧ fs[k]? = some (mx a t fs) ∧ a ≤ b
  | [], _, h => by simp [mx] at h
  | _ :: _, [], h => by simp [mx] at h
  | b :: t, f :: fs, h => by
    simp only [mx] at h ⊢
    by_cases c : mx a t fs ≤ (if a ≤ b then f else 0)
    · rw [Nat.max_eq_left c] at h ⊢
      by_cases d : a ≤ b
      · rw [if_pos d]; exact ⟨0, b, rfl, rfl, d⟩
      · rw [if_neg d] at h; omega
    · rw [Nat.max_eq_right (by omega)] at h ⊢
      obtain ⟨k, b', h1, h2, h3⟩ := mx_at h
      exact ⟨k + 1, b', by simpa using h1, by simpa using h2, h3⟩
theorem mx_snoc {a : Int} : ∀ {t : List Int} {fs : List Nat} {j : Nat} {b : Int} {f : Nat}, t[j]? = some b → fs[j]? = some f → mx a (t.take (j + 1)) (fs.take (j + 1)) = max (mx a (t.take j) (fs.take j)) (if a ≤ b then f else 0)
  | [], _, _, _, _, h, _ => by simp at h
  | _ :: _, [], _, _, _, _, h => by simp at h
  | b0 :: t, f0 :: fs, 0, b, f, h1, h2 => by
    have e1 : b0 = b := by simpa using h1
    have e2 : f0 = f := by simpa using h2
    subst e1 e2
    simp [mx]
  | b0 :: t, f0 :: fs, j + 1, b, f, h1, h2 => by
    have := mx_snoc (a := a) (t := t) (fs := fs) (j := j) (by simpa using h1) (by simpa using h2)
    simp only [List.take_succ_cons, mx]
    rw [this]; omega
/-- The greatest. -/
def mo : List Nat → Nat
  | [] => 0
  | f :: fs => max f (mo fs)
theorem mo_le {f : Nat} : ∀ {fs : List Nat}, f ∈ fs → f ≤ mo fs
  | [], h => by simp at h
  | g :: fs, h => by
    simp only [mo]
    rcases List.mem_cons.1 h with e | e
    · omega
    · have := mo_le e; omega
theorem mo_at : ∀ {fs : List Nat}, 0 < mo fs → ∃ k : Nat, fs[k]? = some (mo fs)
  | [], h => by simp [mo] at h
  | g :: fs, h => by
    simp only [mo] at h ⊢
    by_cases c : mo fs ≤ g
    · rw [Nat.max_eq_left c]; exact ⟨0, rfl⟩
    · rw [Nat.max_eq_right (by omega)] at h ⊢
      obtain ⟨k, hk⟩ := mo_at h
      exact ⟨k + 1, by simpa using hk⟩
theorem mo_drop {fs : List Nat} {i : Nat} (h : i < fs.length) : mo (fs.drop i) = max (mo (fs.drop (i + 1))) (fs.getD i 0) := by
  rw [List.drop_eq_getElem_cons h]
  simp only [mo]
  rw [show fs.getD i 0 = fs[i] by simp [h]]
  omega
theorem fr_at {xs : List Int} {i : Nat} (h : i < xs.length) : (frs xs)[i]? = some (fr xs i) := by
  unfold fr
  rw [List.getElem?_eq_getElem (by rw [frs_length]; exact h)]
  simp [frs_length, h]
theorem fr_head {xs : List Int} {i : Nat} (h : i < xs.length) : fr xs i = 1 + mx (xs.getD i 0) (xs.drop (i + 1)) (frs (xs.drop (i + 1))) := by
  have h1 := frs_drop xs i
  rw [List.drop_eq_getElem_cons (show i < (frs xs).length by rw [frs_length]; exact h), List.drop_eq_getElem_cons h] at h1
  simp only [frs] at h1
  have h2 := (List.cons.inj h1).1
  unfold fr
  rw [show (frs xs).getD i 0 = (frs xs)[i]'(by rw [frs_length]; exact h) by simp [frs_length, h], h2, getD_get h]
theorem fr_pos {xs : List Int} {i : Nat} (h : i < xs.length) : 1 ≤ fr xs i := by rw [fr_head h]; omega
theorem mx_bound {a : Int} : ∀ (t : List Int) (fs : List Nat) {n : Nat}, (∀ f ∈ fs, f ≤ n) → mx a t fs ≤ n
  | [], _, _, _ => by simp [mx]
  | _ :: _, [], _, _ => by simp [mx]
  | b :: t, f :: fs, n, h => by
    have h1 := mx_bound (a := a) t fs (fun g hg => h g (List.mem_cons_of_mem _ hg))
    have h2 := h f (by simp)
    simp only [mx]
    split <;> omega
theorem frs_bound : ∀ (xs : List Int), ∀ f ∈ frs xs, f ≤ xs.length
  | [], f, h => by simp [frs] at h
  | a :: t, f, h => by
    have ih := frs_bound t
    simp only [frs] at h
    rcases List.mem_cons.1 h with e | e
    · have := mx_bound (a := a) t (frs t) ih
      rw [List.length_cons]; omega
    · have := ih f e; rw [List.length_cons]; omega
theorem fr_le {xs : List Int} {i : Nat} : fr xs i ≤ xs.length := by
  unfold fr
  rw [List.getD_eq_getElem?_getD]
  cases e : (frs xs)[i]? with
  | none => exact Nat.zero_le _
  | some f => exact frs_bound xs f (List.mem_of_getElem? e)
theorem mo_bound : ∀ (fs : List Nat) {n : Nat}, (∀ f ∈ fs, f ≤ n) → mo fs ≤ n
  | [], _, _ => Nat.zero_le _
  | f :: fs, n, h => by
    have h1 := mo_bound fs (fun g hg => h g (List.mem_cons_of_mem _ hg))
    have h2 := h f (by simp)
    simp only [mo]; omega
/-- The length of the longest. -/
def most (xs : List Int) : Nat := mo (frs xs)
theorem most_le (xs : List Int) : most xs ≤ xs.length := mo_bound _ (frs_bound xs)
theorem up_head {a : Int} {s : List Int} (h : ∀ b, s.head? = some b → a ≤ b) (hs : s.Pairwise (· ≤ ·)) : (a :: s).Pairwise (· ≤ ·) := by
  refine List.pairwise_cons.2 ⟨fun x hx => ?_, hs⟩
  cases s with
  | nil => simp at hx
  | cons b s =>
    have h1 := h b rfl
    rcases List.mem_cons.1 hx with e | e
    · omega
    · have := (List.pairwise_cons.1 hs).1 x e; omega
theorem sub_fr : ∀ {xs s : List Int} {b : Int}, (b :: s).Sublist xs → (b :: s).Pairwise (· ≤ ·) → ∃ i : Nat, xs[i]? = some b ∧ ∃ f, (frs xs)[i]? = some f ∧ s.length + 1 ≤ f
  | [], s, b, h, _ => by cases h
  | a :: t, s, b, h, hp => by
    cases h with
    | cons _ h =>
      obtain ⟨i, h1, f, h2, h3⟩ := sub_fr h hp
      exact ⟨i + 1, by simpa using h1, f, by simpa [frs] using h2, h3⟩
    | cons_cons _ h =>
      refine ⟨0, rfl, _, rfl, ?_⟩
      cases s with
      | nil => simp
      | cons c s =>
        obtain ⟨i, h1, f, h2, h3⟩ := sub_fr h (List.pairwise_cons.1 hp).2
        have := mx_le (a := a) h1 h2 ((List.pairwise_cons.1 hp).1 c (by simp))
        rw [List.length_cons]; omega
theorem fr_sub : ∀ {xs : List Int} {i : Nat} {b : Int} {f : Nat}, xs[i]? = some b → (frs xs)[i]? = some f → ∃ s, (b :: s).Sublist xs ∧ (b :: s).Pairwise (· ≤ ·) ∧ s.length + 1 = f
  | [], _, _, _, h, _ => by simp at h
  | a :: t, i + 1, b, f, h1, h2 => by
    obtain ⟨s, h3, h4, h5⟩ := fr_sub (xs := t) (i := i) (by simpa using h1) (by simpa [frs] using h2)
    exact ⟨s, h3.cons _, h4, h5⟩
  | a :: t, 0, b, f, h1, h2 => by
    have e1 : a = b := by simpa using h1
    subst e1
    have e2 : 1 + mx a t (frs t) = f := by simpa [frs] using h2
    by_cases c : 0 < mx a t (frs t)
    · obtain ⟨k, b', h3, h4, h5⟩ := mx_at c
      obtain ⟨s, h6, h7, h8⟩ := fr_sub h3 h4
      exact ⟨b' :: s, h6.cons_cons _, up_head (fun x hx => by
        have e : b' = x := by simpa using hx
        rw [← e]; exact h5) h7, by rw [List.length_cons]; omega⟩
    · exact ⟨[], by simp, List.pairwise_singleton _ _, by simp; omega⟩
theorem sub_can : ∀ {s xs : List Int}, s.Sublist xs → ∃ L : List (Int × Nat), L.map (·.1) = xs ∧ cls L 1 = s ∧ (∀ p ∈ L, p.2 ≤ 1) ∧ ncol L = s.length := by
  intro s xs h
  induction h with
  | slnil => exact ⟨[], rfl, rfl, fun p hp => by simp at hp, rfl⟩
  | cons a _ ih =>
    obtain ⟨L, h1, h2, h3, h4⟩ := ih
    refine ⟨(a, 0) :: L, by rw [List.map_cons, h1], by rw [cls_cons, if_neg (by simp), h2], fun p hp => ?_, by rw [ncol_cons, h4]; rfl⟩
    rcases List.mem_cons.1 hp with e | e
    · rw [e]; exact Nat.zero_le _
    · exact h3 p e
  | cons_cons a _ ih =>
    obtain ⟨L, h1, h2, h3, h4⟩ := ih
    refine ⟨(a, 1) :: L, by rw [List.map_cons, h1], by rw [cls_cons, if_pos rfl, h2], fun p hp => ?_, by rw [ncol_cons, h4]; rfl⟩
    rcases List.mem_cons.1 hp with e | e
    · rw [e]; exact Nat.le_refl _
    · exact h3 p e
/-- SCHENSTED: the longest one has as many letters as the first row. -/
theorem most_row (xs : List Int) : most xs = boxes ((insW [] xs).take 1) := by
  apply Nat.le_antisymm
  · by_cases c : 0 < most xs
    · obtain ⟨k, hk⟩ := mo_at c
      have hk1 := (List.getElem?_eq_some_iff.1 hk).1
      rw [frs_length] at hk1
      obtain ⟨s, h1, h2, h3⟩ := fr_sub (xs := xs) (i := k) (List.getElem?_eq_getElem hk1) hk
      obtain ⟨L, g1, g2, g3, g4⟩ := sub_can h1
      have : Can (· ≤ ·) 1 xs (most xs) := by
        refine ⟨L, g1, fun t ht => ?_, g3, by rw [g4, List.length_cons]; exact h3⟩
        by_cases e : t = 1
        · rw [e, g2]; exact h2
        · have : cls L t = [] := by
            unfold cls
            rw [List.map_eq_nil_iff, List.filter_eq_nil_iff]
            intro p hp
            have := g3 p hp
            simp; omega
          rw [this]; exact List.Pairwise.nil
      exact greene_up this
    · omega
  · obtain ⟨L, h1, h2, h3, h4⟩ := row_can (xs := xs)
    have h5 : ncol L = (cls L 1).length := by
      clear h1 h2 h4
      induction L with
      | nil => rfl
      | cons p L ih =>
        have hp := h3 p (by simp)
        rw [ncol_cons, cls_cons, ih (fun q hq => h3 q (List.mem_cons_of_mem _ hq))]
        by_cases e : p.2 = 1
        · rw [if_pos e, if_neg (by omega)]; rfl
        · rw [if_neg e, if_pos (by omega)]; rfl
    have hsub : (cls L 1).Sublist xs := by
      rw [← h1]
      exact List.Sublist.map _ List.filter_sublist
    have hpw := h2 1 (by omega)
    rw [← h4, h5]
    cases e : cls L 1 with
    | nil => exact Nat.zero_le _
    | cons b s =>
      rw [e] at hsub hpw
      obtain ⟨i, _, f, h6, h7⟩ := sub_fr hsub hpw
      have := mo_le (List.mem_of_getElem? h6)
      rw [List.length_cons]
      unfold most
      omega

/-- What has been picked of the first i letters. -/
structure Grd (xs : List Int) (i : Nat) (l : List Int) (last : Int) : Prop where
  pos : ∀ q, q < l.length → 1 ≤ l.getD q 0 ∧ l.getD q 0 ≤ (i : Int)
  inc : ∀ q, q + 1 < l.length → l.getD q 0 < l.getD (q + 1) 0 ∧ xs.getD (l.getD q 0 - 1).toNat 0 ≤ xs.getD (l.getD (q + 1) 0 - 1).toNat 0
  top : ∀ q, q + 1 = l.length → last = xs.getD (l.getD q 0 - 1).toNat 0
  zero : l.length = 0 → last = 0
  le : l.length ≤ most xs
  need : l.length < most xs → ∃ j, i ≤ j ∧ j < xs.length ∧ fr xs j = most xs - l.length ∧ last ≤ xs.getD j 0
theorem Grd.start {xs : List Int} (h : ∀ x ∈ xs, Lt x) : Grd xs 0 [] 0 := by
  refine ⟨fun q hq => by simp at hq, fun q hq => by simp at hq, fun q hq => by simp at hq, fun _ => rfl, Nat.zero_le _, fun hm => ?_⟩
  have hm' : 0 < mo (frs xs) := by simpa [most] using hm
  obtain ⟨k, hk⟩ := mo_at hm'
  have hk1 := (List.getElem?_eq_some_iff.1 hk).1
  rw [frs_length] at hk1
  refine ⟨k, Nat.zero_le _, hk1, ?_, ?_⟩
  · unfold fr most; rw [List.getD_eq_getElem?_getD, hk]; simp
  · have := h _ (List.getElem_mem hk1)
    rw [getD_get hk1]; have := this.1; omega
theorem Grd.skip {xs l : List Int} {i : Nat} {last : Int} (h : Grd xs i l last) (hn : ¬ (fr xs i = most xs - l.length ∧ last ≤ xs.getD i 0)) : Grd xs (i + 1) l last := by
  refine ⟨fun q hq => by have := h.pos q hq; omega, h.inc, h.top, h.zero, h.le, fun hm => ?_⟩
  obtain ⟨j, h1, h2, h3, h4⟩ := h.need hm
  refine ⟨j, ?_, h2, h3, h4⟩
  by_cases e : j = i
  · subst e; exact absurd ⟨h3, h4⟩ hn
  · omega
theorem Grd.take {xs l : List Int} {i : Nat} {last : Int} (h : Grd xs i l last) (hi : i < xs.length) (h1 : fr xs i = most xs - l.length) (h2 : last ≤ xs.getD i 0) : Grd xs (i + 1) (l ++ [(i : Int) + 1]) (xs.getD i 0) := by
  have hp := fr_pos hi
  have low : ∀ q, q < l.length → (l ++ [(i : Int) + 1]).getD q 0 = l.getD q 0 := fun q hq => by
    rw [List.getD_eq_getElem?_getD, List.getD_eq_getElem?_getD, List.getElem?_append_left hq]
  have top : (l ++ [(i : Int) + 1]).getD l.length 0 = (i : Int) + 1 := by
    rw [List.getD_eq_getElem?_getD, List.getElem?_append_right (Nat.le_refl _)]; simp
  have hl : (l ++ [(i : Int) + 1]).length = l.length + 1 := by simp
  have hti : ((i : Int) + 1 - 1).toNat = i := by omega
  refine ⟨fun q hq => ?_, fun q hq => ?_, fun q hq => ?_, fun e => by rw [hl] at e; omega, by rw [hl]; omega, fun hm => ?_⟩
  · rw [hl] at hq
    by_cases c : q < l.length
    · rw [low q c]; have := h.pos q c; omega
    · obtain rfl : q = l.length := by omega
      rw [top]; omega
  · rw [hl] at hq
    by_cases c : q + 1 < l.length
    · rw [low q (by omega), low (q + 1) c]; exact h.inc q c
    · have e : q + 1 = l.length := by omega
      rw [low q (by omega), e, top, hti]
      have := h.pos q (by omega)
      have h3 := h.top q e
      exact ⟨by omega, by rw [← h3]; exact h2⟩
  · rw [hl] at hq
    obtain rfl : q = l.length := by omega
    rw [top, hti]
  · rw [hl] at hm ⊢
    have h4 := fr_head hi
    have h5 : 0 < mx (xs.getD i 0) (xs.drop (i + 1)) (frs (xs.drop (i + 1))) := by omega
    obtain ⟨k, b, h6, h7, h8⟩ := mx_at h5
    rw [← frs_drop, List.getElem?_drop] at h7
    rw [List.getElem?_drop] at h6
    obtain ⟨g1, g2⟩ := List.getElem?_eq_some_iff.1 h6
    refine ⟨i + 1 + k, by omega, g1, ?_, ?_⟩
    · unfold fr
      rw [List.getD_eq_getElem?_getD, h7]
      simp only [Option.getD_some]
      rw [frs_drop]; omega
    · rw [getD_get g1, g2]; exact h8
theorem Grd.fin {xs l : List Int} {i : Nat} {last : Int} (h : Grd xs i l last) (hi : i = xs.length) : l.length = most xs := by
  have := h.le
  by_cases c : l.length < most xs
  · obtain ⟨j, h1, h2, _⟩ := h.need c
    omega
  · omega
end Go.Proofs.Ytmlmdklheiafpaa
