/-
  Plain lists: a map of a finite stock into itself that never gives one thing twice gives each; the words of a length.
-/
import Derived.Test.YtmlmdklheiafpaaDoorBase
namespace Go.Proofs.YtmlmdklheiafpaaDoor

theorem onto_of_inj {α : Type} [DecidableEq α] (S : List α) (hS : S.Nodup) (f : α → α) (hf : ∀ x ∈ S, f x ∈ S) (hinj : ∀ x ∈ S, ∀ y ∈ S, f x = f y → x = y) :
    ∀ y ∈ S, ∃ x ∈ S, f x = y := by
  intro y hy
  by_cases h : y ∈ S.map f
  · obtain ⟨x, hx, e⟩ := List.mem_map.1 h
    exact ⟨x, hx, e⟩
  · exfalso
    have hnd : (S.map f).Nodup := by
      rw [List.nodup_iff_pairwise_ne, List.pairwise_map]
      rw [List.nodup_iff_pairwise_ne] at hS
      exact hS.imp_of_mem (fun {a b} ha hb hne e => hne (hinj a ha b hb e))
    have hnd2 : (y :: S.map f).Nodup := List.nodup_cons.2 ⟨h, hnd⟩
    have hsub : y :: S.map f ⊆ S := by
      intro z hz
      rcases List.mem_cons.1 hz with rfl | hz
      · exact hy
      · obtain ⟨x, hx, rfl⟩ := List.mem_map.1 hz
        exact hf x hx
    have := hnd2.length_le_of_subset hsub
    simp at this
    omega

/-- All words of a length over a stock of letters. -/
def wordsOf (vals : List Int) : Nat → List (List Int)
  | 0 => [[]]
  | n + 1 => vals.flatMap (fun v => (wordsOf vals n).map (v :: ·))

theorem mem_wordsOf {vals : List Int} : ∀ (n : Nat) (l : List Int), l ∈ wordsOf vals n ↔ l.length = n ∧ ∀ x ∈ l, x ∈ vals
  | 0, l => by
    simp only [wordsOf, List.mem_singleton]
    constructor
    · rintro rfl; simp
    · intro h; exact List.eq_nil_of_length_eq_zero h.1
  | n + 1, l => by
    simp only [wordsOf, List.mem_flatMap, List.mem_map]
    constructor
    · rintro ⟨v, hv, m, hm, rfl⟩
      have := (mem_wordsOf n m).1 hm
      refine ⟨by simp [this.1], fun x hx => ?_⟩
      rcases List.mem_cons.1 hx with rfl | hx
      · exact hv
      · exact this.2 x hx
    · rintro ⟨hl, hm⟩
      match l, hl with
      | v :: m, hl =>
        exact ⟨v, hm v (by simp), m, (mem_wordsOf n m).2 ⟨by simpa using hl, fun x hx => hm x (List.mem_cons_of_mem _ hx)⟩, rfl⟩

theorem nodup_cons_each (W : List (List Int)) (ih : W.Nodup) : ∀ (vals : List Int), vals.Nodup → (vals.flatMap (fun v => W.map (v :: ·))).Nodup
  | [], _ => by simp
  | v :: vs, h => by
    have hv := List.nodup_cons.1 h
    rw [List.flatMap_cons, List.nodup_append]
    refine ⟨?_, nodup_cons_each W ih vs hv.2, ?_⟩
    · rw [List.nodup_iff_pairwise_ne, List.pairwise_map]
      rw [List.nodup_iff_pairwise_ne] at ih
      exact ih.imp (fun hne e => hne (by injection e))
    · intro a ha b hb e
      subst e
      obtain ⟨m, _, rfl⟩ := List.mem_map.1 ha
      obtain ⟨u, hu, hm⟩ := List.mem_flatMap.1 hb
      obtain ⟨m', _, e⟩ := List.mem_map.1 hm
      injection e with e1 _
      subst e1
      exact hv.1 hu

theorem nodup_wordsOf {vals : List Int} (h : vals.Nodup) : ∀ n, (wordsOf vals n).Nodup
  | 0 => by simp [wordsOf]
  | n + 1 => nodup_cons_each _ (nodup_wordsOf h n) vals h

/-- A map of words into words of the same length and stock that gives no word twice gives each. -/
theorem words_onto (vals : List Int) (hv : vals.Nodup) (n : Nat) (p : List Int → Prop) [DecidablePred p] (f : List Int → List Int)
    (hf : ∀ w, w.length = n → (∀ x ∈ w, x ∈ vals) → p w → (f w).length = n ∧ (∀ x ∈ f w, x ∈ vals) ∧ p (f w))
    (hinj : ∀ u w, u.length = n → (∀ x ∈ u, x ∈ vals) → p u → w.length = n → (∀ x ∈ w, x ∈ vals) → p w → f u = f w → u = w) :
    ∀ v, v.length = n → (∀ x ∈ v, x ∈ vals) → p v → ∃ w, w.length = n ∧ (∀ x ∈ w, x ∈ vals) ∧ p w ∧ f w = v := by
  intro v h1 h2 h3
  have mem : ∀ w, w ∈ (wordsOf vals n).filter (fun w => decide (p w)) ↔ w.length = n ∧ (∀ x ∈ w, x ∈ vals) ∧ p w := by
    intro w
    rw [List.mem_filter, mem_wordsOf]
    simp [and_assoc]
  obtain ⟨w, hw, e⟩ := onto_of_inj ((wordsOf vals n).filter (fun w => decide (p w))) ((nodup_wordsOf hv n).filter _) f
    (fun w hw => by
      obtain ⟨a, b, c⟩ := (mem w).1 hw
      exact (mem _).2 (hf w a b c))
    (fun x hx y hy e => by
      obtain ⟨a, b, c⟩ := (mem x).1 hx
      obtain ⟨a', b', c'⟩ := (mem y).1 hy
      exact hinj x y a b c a' b' c' e)
    v ((mem v).2 ⟨h1, h2, h3⟩)
  obtain ⟨a, b, c⟩ := (mem w).1 hw
  exact ⟨w, a, b, c, e⟩

/-- The numbers from 1 to n. -/
def upTo (n : Nat) : List Int := (List.range n).map (fun i : Nat => (i : Int) + 1)
theorem mem_upTo {n : Nat} {x : Int} : x ∈ upTo n ↔ 1 ≤ x ∧ x ≤ (n : Int) := by
  simp only [upTo, List.mem_map, List.mem_range]
  constructor
  · rintro ⟨i, hi, rfl⟩; omega
  · intro h; exact ⟨(x - 1).toNat, by omega, by omega⟩
theorem nodup_upTo (n : Nat) : (upTo n).Nodup := by
  rw [upTo, List.nodup_iff_pairwise_ne, List.pairwise_map]
  have := List.nodup_range (n := n)
  rw [List.nodup_iff_pairwise_ne] at this
  exact this.imp (fun h e => h (by omega))
theorem length_upTo (n : Nat) : (upTo n).length = n := by simp [upTo]

end Go.Proofs.YtmlmdklheiafpaaDoor
