/-
  Plain lists: as many numbers above all ahead as cycles that are met.
-/
import Derived.Test.YtmlmdklheiafpaaRoundsP
namespace Go.Proofs.Ytmlmdklheiafpaa

/-- How many numbers are above all ahead, and the last of them. -/
def recs : List Int → Int × Int := List.foldl (fun s x => if s.2 < x then (s.1 + 1, x) else s) (0, 0)

theorem recs_snoc (l : List Int) (x : Int) : recs (l ++ [x]) = if (recs l).2 < x then ((recs l).1 + 1, x) else recs l := by
  simp only [recs, List.foldl_append, List.foldl_cons, List.foldl_nil]
  rfl

theorem recs_append (l m : List Int) : recs (l ++ m) = m.foldl (fun s x => if s.2 < x then (s.1 + 1, x) else s) (recs l) := by
  simp [recs]

theorem fold_low (m : List Int) (s : Int × Int) (h : ∀ x ∈ m, x ≤ s.2) : m.foldl (fun s x => if s.2 < x then (s.1 + 1, x) else s) s = s := by
  induction m with
  | nil => rfl
  | cons y m ih =>
    have hy := h y (by simp)
    rw [List.foldl_cons, if_neg (by omega)]
    exact ih (fun x hx => h x (List.mem_cons_of_mem _ hx))

theorem recs_bound (l : List Int) : 0 ≤ (recs l).1 ∧ (recs l).1 ≤ l.length := by
  have key : ∀ (l : List Int) (s : Int × Int), s.1 ≤ (l.foldl (fun s x => if s.2 < x then (s.1 + 1, x) else s) s).1 ∧ (l.foldl (fun s x => if s.2 < x then (s.1 + 1, x) else s) s).1 ≤ s.1 + l.length := by
    intro l
    induction l with
    | nil => intro s; simp
    | cons y l ih =>
      intro s
      rw [List.foldl_cons]
      split
      · have := ih (s.1 + 1, y); simp only [List.length_cons] at this ⊢; omega
      · have := ih s; simp only [List.length_cons]; omega
  have := key l (0, 0)
  simpa [recs] using this

/-- How many closed ways there are outside of a set. -/
def left (xs : List Int) (S : Int → Bool) (t : Nat) : Nat := (List.range t).countP (fun i : Nat => decide (Closing xs ((i : Int) + 1)) && !S ((i : Int) + 1))

theorem left_le (xs : List Int) (S : Int → Bool) (t : Nat) : left xs S t ≤ t := by
  have := List.countP_le_length (p := fun i : Nat => decide (Closing xs ((i : Int) + 1)) && !S ((i : Int) + 1)) (l := List.range t)
  simpa [left] using this

theorem left_succ (xs : List Int) (S : Int → Bool) (t : Nat) : left xs S (t + 1) = left xs S t + if Closing xs ((t : Int) + 1) ∧ S ((t : Int) + 1) = false then 1 else 0 := by
  unfold left
  rw [List.range_succ, List.countP_append]
  by_cases h1 : Closing xs ((t : Int) + 1) <;> by_cases h2 : S ((t : Int) + 1) <;> simp [h1, h2]

theorem recs_roundsTo {xs : List Int} (hp : IsPerm xs) : ∀ (t : Nat), t ≤ xs.length → (recs (roundsTo xs t)).1 = left xs (fun _ => false) t ∧ (recs (roundsTo xs t)).2 ≤ t
  | 0, _ => by simp [roundsTo, recs, left]
  | t + 1, h => by
    have ih := recs_roundsTo hp t (by omega)
    rw [roundsTo_succ, left_succ]
    by_cases hc : Closing xs ((t : Int) + 1)
    · rw [if_pos hc, if_pos ⟨hc, rfl⟩, recs_append]
      have e : arc xs ((t : Int) + 1) = ((t : Int) + 1) :: chain xs ((t : Int) + 1) xs.length (at1 xs ((t : Int) + 1)) := rfl
      rw [e, List.foldl_cons, if_pos (by omega), fold_low]
      · simp only []; omega
      · intro x hx
        have hm : x ∈ arc xs ((t : Int) + 1) := by rw [e]; exact List.mem_cons_of_mem _ hx
        exact arc_le hp (by omega) (by omega) hm
    · rw [if_neg hc, if_neg (fun h => hc h.1), List.append_nil]
      omega

theorem countP_one {α : Type} {l : List α} {p q : α → Bool} {a : α} (hl : l.Nodup) (ha : a ∈ l) (h : ∀ x ∈ l, x ≠ a → p x = q x) (hp : p a = true) (hq : q a = false) : l.countP q + 1 = l.countP p := by
  induction l with
  | nil => cases ha
  | cons y l ih =>
    have hn := List.nodup_cons.1 hl
    rw [List.countP_cons, List.countP_cons]
    by_cases e : y = a
    · subst e
      have : l.countP p = l.countP q := List.countP_congr (fun x hx => by rw [h x (List.mem_cons_of_mem _ hx) (fun e => hn.1 (e ▸ hx))])
      simp [hp, hq, this]
    · have ha' : a ∈ l := by
        rcases List.mem_cons.1 ha with h | h
        · exact absurd h.symm e
        · exact h
      have := ih hn.2 ha' (fun x hx => h x (List.mem_cons_of_mem _ hx))
      rw [h y (by simp) e]
      omega

/-- Gone from i on, k is next. -/
structure Going (xs S : List Int) (i : Int) (l : List Int) (k : Int) : Prop where
  nodup : l.Nodup
  range : ∀ x ∈ l, 1 ≤ x ∧ x ≤ (xs.length : Int)
  krange : 1 ≤ k ∧ k ≤ (xs.length : Int)
  step : ∀ x ∈ l, at1 xs x ∈ l ∨ at1 xs x = k
  start : i ∈ l ∨ k = i
  inside : ∀ t : Int, 1 ≤ t → t ≤ xs.length → Closing xs t → i ∈ arc xs t → k ∈ arc xs t ∧ ∀ x ∈ l, x ∈ arc xs t

theorem Going.nil {xs S : List Int} {i : Int} (h1 : 1 ≤ i) (h2 : i ≤ xs.length) : Going xs S i [] i :=
  ⟨by simp, by simp, ⟨h1, h2⟩, by simp, .inr rfl, fun t _ _ _ h => ⟨h, by simp⟩⟩

theorem Going.next {xs S : List Int} {i k : Int} {l : List Int} (hp : IsPerm xs) (h : Going xs S i l k) (hk : k ∉ l) : Going xs S i (l ++ [k]) (at1 xs k) := by
  refine ⟨nodup_snoc.2 ⟨h.nodup, hk⟩, ?_, hp.at1_mem h.krange.1 h.krange.2, ?_, ?_, ?_⟩
  · intro x hx
    rcases List.mem_append.1 hx with hx | hx
    · exact h.range x hx
    · simp at hx; subst hx; exact h.krange
  · intro x hx
    rcases List.mem_append.1 hx with hx | hx
    · rcases h.step x hx with h1 | h1
      · left; simp [h1]
      · left; simp [h1]
    · simp at hx; subst hx; right; rfl
  · left
    rcases h.start with h1 | h1
    · simp [h1]
    · simp [h1]
  · intro t t1 t2 tc hi
    have := h.inside t t1 t2 tc hi
    refine ⟨arc_closed hp t1 t2 tc this.1, fun x hx => ?_⟩
    rcases List.mem_append.1 hx with hx | hx
    · exact this.2 x hx
    · simp at hx; subst hx; exact this.1

/-- The numbers that were seen: closed under the permutation. -/
def Shut (xs S : List Int) : Prop := ∀ x ∈ S, at1 xs x ∈ S

theorem Going.shut {xs S : List Int} {i k : Int} {l : List Int} (h : Going xs S i l k) (hS : Shut xs S) (hk : k ∈ S ++ l) : Shut xs (S ++ l) := by
  intro x hx
  rcases List.mem_append.1 hx with hx | hx
  · exact List.mem_append_left _ (hS x hx)
  · rcases h.step x hx with h1 | h1
    · exact List.mem_append_right _ h1
    · rw [h1]; exact hk

theorem Going.left {xs S : List Int} {i k : Int} {l : List Int} (hp : IsPerm xs) (h : Going xs S i l k) (hS : Shut xs S) (hk : k ∈ S ++ l) (h1 : 1 ≤ i) (h2 : i ≤ xs.length) (hi : i ∉ S) :
    left xs (fun x => decide (x ∈ S ++ l)) xs.length + 1 = left xs (fun x => decide (x ∈ S)) xs.length := by
  obtain ⟨t, t1, t2, tc, hit⟩ := arc_cover hp ((xs.length : Int) - i).toNat i h1 h2 (by omega)
  have hsh := h.shut hS hk
  have hiS : i ∈ S ++ l := by
    rcases h.start with h3 | h3
    · exact List.mem_append_right _ h3
    · rw [← h3]; exact hk
  have htS' : t ∈ S ++ l := arc_absorb hp t1 t2 tc (· ∈ S ++ l) (fun x _ hx => hsh x hx) hit hiS t (mem_arc_self xs t)
  have htS : t ∉ S := fun ht => hi (arc_absorb hp t1 t2 tc (· ∈ S) (fun x _ hx => hS x hx) (mem_arc_self xs t) ht i hit)
  have e : (((t - 1).toNat : Nat) : Int) + 1 = t := by omega
  refine countP_one (a := (t - 1).toNat) List.nodup_range (by simp; omega) ?_ ?_ ?_
  · intro j hj hne
    simp only [List.mem_range] at hj
    by_cases hc : Closing xs ((j : Int) + 1)
    · have hnl : ((j : Int) + 1) ∉ l := fun hm => by
        have := (h.inside t t1 t2 tc hit).2 _ hm
        have := arc_uniq hp t1 t2 tc (s := (j : Int) + 1) (by omega) (by omega) hc this (mem_arc_self xs _)
        omega
      have : ((j : Int) + 1 ∈ S ++ l) ↔ ((j : Int) + 1 ∈ S) := by
        rw [List.mem_append]
        exact ⟨fun h => h.elim id (fun h => absurd h hnl), Or.inl⟩
      simp only [this]
    · simp [hc]
  · simp only [e]; simp [tc, htS]
  · simp only [e]; simp only [htS', decide_true]; simp

theorem left_all {xs S : List Int} (h : ∀ j : Int, 1 ≤ j → j ≤ xs.length → j ∈ S) : left xs (fun x => decide (x ∈ S)) xs.length = 0 := by
  unfold left
  rw [List.countP_eq_zero]
  intro j hj
  simp only [List.mem_range] at hj
  have := h ((j : Int) + 1) (by omega) (by omega)
  simp [this]

theorem left_nil (xs : List Int) (t : Nat) : left xs (fun x => decide (x ∈ ([] : List Int))) t = left xs (fun _ => false) t := by
  simp [left]

end Go.Proofs.Ytmlmdklheiafpaa
