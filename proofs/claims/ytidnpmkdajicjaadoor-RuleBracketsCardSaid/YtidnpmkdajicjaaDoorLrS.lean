/-
  Plain: sums over lists.
-/
namespace Go.Proofs.YtidnpmkdajicjaaDoor.LR

def S {α : Type} : List α → (α → Int) → Int
  | [], _ => 0
  | x :: xs, f => f x + S xs f

theorem S_congr {α : Type} {f g : α → Int} : ∀ {l : List α}, (∀ x ∈ l, f x = g x) → S l f = S l g
  | [], _ => rfl
  | x :: xs, h => by
    have h1 := h x (by simp)
    have h2 := S_congr (l := xs) (fun y hy => h y (by simp [hy]))
    simp only [S, h1, h2]
theorem S_zero {α : Type} : ∀ (l : List α), S l (fun _ => 0) = 0
  | [] => rfl
  | x :: xs => by simp only [S, S_zero xs]; rfl
theorem S_add {α : Type} (f g : α → Int) : ∀ (l : List α), S l (fun x => f x + g x) = S l f + S l g
  | [] => rfl
  | x :: xs => by simp only [S, S_add f g xs]; omega
theorem S_neg {α : Type} (f : α → Int) : ∀ (l : List α), S l (fun x => - f x) = - S l f
  | [] => rfl
  | x :: xs => by simp only [S, S_neg f xs]; omega
theorem S_mul {α : Type} (c : Int) (f : α → Int) : ∀ (l : List α), S l (fun x => c * f x) = c * S l f
  | [] => by simp [S]
  | x :: xs => by simp only [S, S_mul c f xs, Int.mul_add]
theorem S_mulr {α : Type} (c : Int) (f : α → Int) (l : List α) : S l (fun x => f x * c) = S l f * c := by
  rw [Int.mul_comm, ← S_mul]; exact S_congr (fun x _ => Int.mul_comm _ _)
theorem S_append {α : Type} (f : α → Int) : ∀ (a b : List α), S (a ++ b) f = S a f + S b f
  | [], b => by simp [S]
  | x :: xs, b => by simp only [List.cons_append, S, S_append f xs b]; omega
theorem S_map {α β : Type} (h : α → β) (f : β → Int) : ∀ (l : List α), S (l.map h) f = S l (fun x => f (h x))
  | [] => rfl
  | x :: xs => by simp only [List.map_cons, S, S_map h f xs]
theorem S_flatMap {α β : Type} (h : α → List β) (f : β → Int) : ∀ (l : List α), S (l.flatMap h) f = S l (fun x => S (h x) f)
  | [] => rfl
  | x :: xs => by simp only [List.flatMap_cons, S, S_append, S_flatMap h f xs]
theorem S_filter {α : Type} (p : α → Prop) [DecidablePred p] (f : α → Int) : ∀ (l : List α), S (l.filter (fun x => decide (p x))) f = S l (fun x => if p x then f x else 0)
  | [] => rfl
  | x :: xs => by
    by_cases h : p x
    · simp only [h, decide_true, List.filter_cons_of_pos, S, S_filter p f xs, if_true]
    · simp only [h, decide_false, Bool.false_eq_true, not_false_eq_true, List.filter_cons_of_neg, S, S_filter p f xs, if_false]; omega
theorem S_swap {α β : Type} (f : α → β → Int) (m : List β) : ∀ (l : List α), S l (fun x => S m (fun y => f x y)) = S m (fun y => S l (fun x => f x y))
  | [] => by simp only [S]; exact (S_zero m).symm
  | x :: xs => by simp only [S, S_swap f m xs, S_add]
theorem S_perm {α : Type} (f : α → Int) {a b : List α} (h : a.Perm b) : S a f = S b f := by
  induction h with
  | nil => rfl
  | cons x _ ih => simp only [S, ih]
  | swap x y l => simp only [S]; omega
  | trans _ _ ih1 ih2 => rw [ih1, ih2]
/-- One value picked out of a list without repeats. -/
theorem S_pick {α : Type} [DecidableEq α] (c : α) (f : α → Int) : ∀ (l : List α), l.Nodup → c ∈ l → S l (fun x => if x = c then f x else 0) = f c
  | [], _, h => by cases h
  | x :: xs, hn, h => by
    have hn' := List.nodup_cons.1 hn
    by_cases e : x = c
    · subst e
      have : S xs (fun y => if y = x then f y else 0) = S xs (fun _ => 0) := S_congr (fun y hy => by
        have : y ≠ x := by intro e; subst e; exact hn'.1 hy
        simp [this])
      simp only [S, this, S_zero, if_true]; omega
    · have : c ∈ xs := by
        rcases List.mem_cons.1 h with h | h
        · exact absurd h.symm e
        · exact h
      simp only [S, e, if_false, S_pick c f xs hn'.2 this]; omega
theorem S_none {α : Type} [DecidableEq α] (c : α) (f : α → Int) (l : List α) (h : c ∉ l) : S l (fun x => if x = c then f x else 0) = 0 := by
  refine (S_congr (g := fun _ => 0) (fun y hy => ?_)).trans (S_zero l)
  have : y ≠ c := by intro e; subst e; exact h hy
  simp [this]

theorem map_nodup {α β : Type} {f : α → β} : ∀ {l : List α}, l.Nodup → (∀ x ∈ l, ∀ y ∈ l, f x = f y → x = y) → (l.map f).Nodup := by
  intro l hn h
  rw [List.nodup_iff_pairwise_ne, List.pairwise_map]
  rw [List.nodup_iff_pairwise_ne] at hn
  exact hn.imp_of_mem (fun {a b} ha hb hne e => hne (h a ha b hb e))

/-- Two stocks, each taken onto the other and back. -/
theorem perm_bij {α β : Type} {A : List α} {B : List β} (hA : A.Nodup) (hB : B.Nodup) (f : α → β) (g : β → α)
    (hf : ∀ x ∈ A, f x ∈ B) (hg : ∀ y ∈ B, g y ∈ A) (hgf : ∀ x ∈ A, g (f x) = x) (hfg : ∀ y ∈ B, f (g y) = y) : (A.map f).Perm B := by
  refine (List.perm_ext_iff_of_nodup (map_nodup hA (fun x hx y hy e => ?_)) hB).2 (fun y => ?_)
  · rw [← hgf x hx, ← hgf y hy, e]
  · constructor
    · intro h
      obtain ⟨x, hx, rfl⟩ := List.mem_map.1 h
      exact hf x hx
    · intro h
      exact List.mem_map.2 ⟨g y, hg y h, hfg y h⟩
theorem S_bij {α β : Type} {A : List α} {B : List β} (hA : A.Nodup) (hB : B.Nodup) (f : α → β) (g : β → α)
    (hf : ∀ x ∈ A, f x ∈ B) (hg : ∀ y ∈ B, g y ∈ A) (hgf : ∀ x ∈ A, g (f x) = x) (hfg : ∀ y ∈ B, f (g y) = y) (F : α → Int) (G : β → Int) (h : ∀ x ∈ A, F x = G (f x)) : S A F = S B G := by
  rw [S_congr h, ← S_map f G, S_perm G (perm_bij hA hB f g hf hg hgf hfg)]
/-- What changes its sign when turned adds up to nothing. -/
theorem S_odd {α : Type} {A : List α} (hA : A.Nodup) (f : α → α) (hf : ∀ x ∈ A, f x ∈ A) (hff : ∀ x ∈ A, f (f x) = x) (F : α → Int) (h : ∀ x ∈ A, F (f x) = - F x) : S A F = 0 := by
  have : S A F = S A (fun x => - F x) := S_bij hA hA f f hf hf hff hff F _ (fun x hx => by rw [h x hx]; omega)
  rw [S_neg] at this
  omega

/-- All words of a length over a stock. -/
def words {α : Type} (vals : List α) : Nat → List (List α)
  | 0 => [[]]
  | n + 1 => vals.flatMap (fun v => (words vals n).map (v :: ·))
theorem mem_words {α : Type} {vals : List α} : ∀ (n : Nat) (l : List α), l ∈ words vals n ↔ l.length = n ∧ ∀ x ∈ l, x ∈ vals
  | 0, l => by
    simp only [words, List.mem_singleton]
    constructor
    · rintro rfl; simp
    · intro h; exact List.eq_nil_of_length_eq_zero h.1
  | n + 1, l => by
    simp only [words, List.mem_flatMap, List.mem_map]
    constructor
    · rintro ⟨v, hv, m, hm, rfl⟩
      have := (mem_words n m).1 hm
      refine ⟨by simp [this.1], fun x hx => ?_⟩
      rcases List.mem_cons.1 hx with rfl | hx
      · exact hv
      · exact this.2 x hx
    · rintro ⟨hl, hm⟩
      match l, hl with
      | v :: m, hl =>
        exact ⟨v, hm v (by simp), m, (mem_words n m).2 ⟨by simpa using hl, fun x hx => hm x (List.mem_cons_of_mem _ hx)⟩, rfl⟩
theorem flat_nodup {α β : Type} {h : α → List β} (ret : β → α) : ∀ {l : List α}, l.Nodup → (∀ x ∈ l, (h x).Nodup) → (∀ x ∈ l, ∀ y ∈ h x, ret y = x) → (l.flatMap h).Nodup
  | [], _, _, _ => by simp
  | x :: xs, hn, h1, h2 => by
    have hn' := List.nodup_cons.1 hn
    rw [List.flatMap_cons, List.nodup_append]
    refine ⟨h1 x (by simp), flat_nodup ret hn'.2 (fun y hy => h1 y (by simp [hy])) (fun y hy => h2 y (by simp [hy])), ?_⟩
    intro a ha b hb e
    subst e
    obtain ⟨y, hy, hb⟩ := List.mem_flatMap.1 hb
    have e1 := h2 x (by simp) a ha
    have e2 := h2 y (by simp [hy]) a hb
    rw [← e1, e2] at hn'
    exact hn'.1 hy
theorem cons_nodup {α : Type} (v : α) {l : List (List α)} (h : l.Nodup) : (l.map (v :: ·)).Nodup :=
  map_nodup h (fun _ _ _ _ e => (List.cons.inj e).2)
theorem words_nodup {α : Type} {vals : List α} (h : vals.Nodup) : ∀ n, (words vals n).Nodup
  | 0 => by simp [words]
  | n + 1 => by
    match hv : vals with
    | [] => simp [words]
    | d :: _ =>
      refine flat_nodup (fun l => l.headD d) h (fun x _ => cons_nodup x (words_nodup h n)) (fun x _ y hy => ?_)
      obtain ⟨m, _, rfl⟩ := List.mem_map.1 hy
      rfl

/-- Sums over numbers. -/
def rs : Nat → (Nat → Nat) → Nat
  | 0, _ => 0
  | n + 1, f => rs n f + f n
theorem rs_congr {f g : Nat → Nat} : ∀ {n : Nat}, (∀ r, r < n → f r = g r) → rs n f = rs n g
  | 0, _ => rfl
  | n + 1, h => by
    have h1 : rs n f = rs n g := rs_congr (fun r hr => h r (by omega))
    simp only [rs, h1, h n (by omega)]
theorem rs_le {f g : Nat → Nat} : ∀ {n : Nat}, (∀ r, r < n → f r ≤ g r) → rs n f ≤ rs n g
  | 0, _ => Nat.le_refl _
  | n + 1, h => by
    have h1 := rs_le (f := f) (g := g) (n := n) (fun r hr => h r (by omega))
    have h2 := h n (by omega)
    simp only [rs]; omega
theorem rs_add {f g : Nat → Nat} : ∀ {n : Nat}, rs n (fun r => f r + g r) = rs n f + rs n g
  | 0 => rfl
  | n + 1 => by simp only [rs, rs_add (n := n)]; omega
theorem rs_zero : ∀ {n : Nat}, rs n (fun _ => 0) = 0
  | 0 => rfl
  | n + 1 => by simp only [rs, rs_zero (n := n)]
theorem rs_mul {c : Nat} {f : Nat → Nat} : ∀ {n : Nat}, rs n (fun r => c * f r) = c * rs n f
  | 0 => by simp [rs]
  | n + 1 => by simp only [rs, rs_mul (n := n), Nat.mul_add]
/-- Where sums of what lies below are the same, each is. -/
theorem rs_eq_each {f g : Nat → Nat} : ∀ {n : Nat}, (∀ r, r < n → f r ≤ g r) → rs n g ≤ rs n f → ∀ r, r < n → f r = g r
  | 0, _, _ => by omega
  | n + 1, h, e => by
    have h1 := rs_le (f := f) (g := g) (n := n) (fun r hr => h r (by omega))
    have h2 := h n (by omega)
    simp only [rs] at e
    intro r hr
    by_cases e' : r = n
    · subst e'; omega
    · exact rs_eq_each (n := n) (fun r hr => h r (by omega)) (by omega) r (by omega)
end Go.Proofs.YtidnpmkdajicjaaDoor.LR
