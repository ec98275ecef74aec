/-
  Plain: what fill.Standard answers: ranks of boxes by letter and column.
-/
import Derived.Test.YtmlmdklheiafpaaDoorFilM
namespace Go.Proofs.YtmlmdklheiafpaaDoor.Std1
def ent (T : List (List Int)) (i j : Nat) : Int := (T.getD i []).getD j 0
def len (T : List (List Int)) (i : Nat) : Nat := (T.getD i []).length
/-- All boxes, row by row. -/
def allB (T : List (List Int)) : List (Nat × Nat) := (List.range T.length).flatMap (fun i => (List.range (len T i)).map (fun j => (i, j)))
theorem mem_allB {T : List (List Int)} {b : Nat × Nat} : b ∈ allB T ↔ b.1 < T.length ∧ b.2 < len T b.1 := by
  obtain ⟨i, j⟩ := b
  simp only [allB, List.mem_flatMap, List.mem_range, List.mem_map, Prod.mk.injEq]
  constructor
  · rintro ⟨a, ha, c, hc, rfl, rfl⟩; exact ⟨ha, hc⟩
  · rintro ⟨h1, h2⟩; exact ⟨i, h1, j, h2, rfl, rfl⟩
theorem nodup_allB (T : List (List Int)) : (allB T).Nodup := by
  unfold allB List.Nodup
  rw [List.pairwise_flatMap]
  refine ⟨fun i _ => ?_, ?_⟩
  · rw [List.pairwise_map]
    exact List.nodup_range.imp (fun h e => h (by simpa using e))
  · refine List.nodup_range.imp (fun {a b} h x hx y hy e => ?_)
    obtain ⟨c, _, rfl⟩ := List.mem_map.1 hx
    obtain ⟨d, _, rfl⟩ := List.mem_map.1 hy
    exact h (by simpa using congrArg Prod.fst e)
/-- The order of boxes: by letter, then by column. -/
def less (T : List (List Int)) (b c : Nat × Nat) : Bool := decide (ent T b.1 b.2 < ent T c.1 c.2) || (decide (ent T b.1 b.2 = ent T c.1 c.2) && decide (b.2 < c.2))
theorem less_iff {T : List (List Int)} {b c : Nat × Nat} : less T b c = true ↔ ent T b.1 b.2 < ent T c.1 c.2 ∨ (ent T b.1 b.2 = ent T c.1 c.2 ∧ b.2 < c.2) := by simp [less]
def rk (T : List (List Int)) (b : Nat × Nat) : Nat := (allB T).countP (fun c => less T c b)
def std (T : List (List Int)) : List (List Int) := (List.range T.length).map (fun i => (List.range (len T i)).map (fun j => ((rk T (i, j) : Nat) : Int) + 1))
theorem std_length (T : List (List Int)) : (std T).length = T.length := by simp [std]
theorem std_len (T : List (List Int)) (i : Nat) : len (std T) i = len T i := by
  unfold len
  by_cases h : i < T.length
  · simp [std, h, len]
  · simp [std, h]
theorem std_ent {T : List (List Int)} {i j : Nat} (hi : i < T.length) (hj : j < len T i) : ent (std T) i j = ((rk T (i, j) : Nat) : Int) + 1 := by
  simp [ent, std, hi, hj]
theorem std_allB (T : List (List Int)) : allB (std T) = allB T := by
  unfold allB
  rw [std_length]
  congr 1
  funext i
  rw [std_len]
/-- In order. -/
structure TOk (T : List (List Int)) : Prop where
  row : ∀ i j, i < T.length → j + 1 < len T i → ent T i j ≤ ent T i (j + 1)
  col : ∀ i j, i + 1 < T.length → j < len T (i + 1) → j < len T i ∧ ent T i j < ent T (i + 1) j
theorem TOk.cols {T : List (List Int)} (h : TOk T) {i j : Nat} : ∀ {d : Nat}, i + d + 1 < T.length → j < len T (i + d + 1) → j < len T i ∧ ent T i j < ent T (i + d + 1) j
  | 0, h1, h2 => h.col i j h1 h2
  | d + 1, h1, h2 => by
    have e := h.col (i + (d + 1)) j (by omega) h2
    have ih := TOk.cols h (i := i) (j := j) (d := d) (by omega) (by rw [show i + d + 1 = i + (d + 1) by omega]; exact e.1)
    refine ⟨ih.1, ?_⟩
    rw [show i + d + 1 = i + (d + 1) by omega] at ih
    have := ih.2; have := e.2
    omega
theorem TOk.total {T : List (List Int)} (h : TOk T) {b c : Nat × Nat} (hb : b ∈ allB T) (hc : c ∈ allB T) (hne : b ≠ c) : less T b c = true ∨ less T c b = true := by
  rw [less_iff, less_iff]
  have hb := mem_allB.1 hb
  have hc := mem_allB.1 hc
  by_cases h1 : ent T b.1 b.2 = ent T c.1 c.2
  · by_cases h2 : b.2 = c.2
    · exfalso
      obtain ⟨i, j⟩ := b
      obtain ⟨i', j'⟩ := c
      simp only at h1 h2 hb hc
      subst h2
      rcases Nat.lt_trichotomy i i' with g | g | g
      · have := h.cols (i := i) (j := j) (d := i' - i - 1) (by omega) (by rw [show i + (i' - i - 1) + 1 = i' by omega]; exact hc.2)
        rw [show i + (i' - i - 1) + 1 = i' by omega] at this
        have := this.2
        omega
      · subst g; exact hne rfl
      · have := h.cols (i := i') (j := j) (d := i - i' - 1) (by omega) (by rw [show i' + (i - i' - 1) + 1 = i by omega]; exact hb.2)
        rw [show i' + (i - i' - 1) + 1 = i by omega] at this
        have := this.2
        omega
    · omega
  · omega
theorem less_trans {T : List (List Int)} {a b c : Nat × Nat} (h : less T a b = true) (h' : less T b c = true) : less T a c = true := by
  rw [less_iff] at *; omega
theorem less_irrefl {T : List (List Int)} {b : Nat × Nat} : less T b b = false := by
  cases h : less T b b with
  | false => rfl
  | true => rw [less_iff] at h; omega
theorem countP_lt {α : Type} {p q : α → Bool} : ∀ {l : List α} {a : α}, (∀ z, p z = true → q z = true) → a ∈ l → p a = false → q a = true → l.countP p < l.countP q
  | y :: l, a, hpq, ha, h1, h2 => by
    rw [List.countP_cons, List.countP_cons]
    have hle : l.countP p ≤ l.countP q := List.countP_mono_left (fun z _ => hpq z)
    rcases List.mem_cons.1 ha with e | ha
    · rw [← e, h1, h2]; simp; omega
    · have ih := countP_lt hpq ha h1 h2
      cases hp : p y with
      | false => simp; omega
      | true => rw [hpq y hp]; simp; omega
theorem rk_lt {T : List (List Int)} {b c : Nat × Nat} (hb : b ∈ allB T) (h : less T b c = true) : rk T b < rk T c :=
  countP_lt (fun _ hx => less_trans hx h) hb less_irrefl h
theorem rk_len {T : List (List Int)} {b : Nat × Nat} (hb : b ∈ allB T) : rk T b < (allB T).length := by
  have h := countP_lt (p := fun c => less T c b) (q := fun _ => true) (fun _ _ => rfl) hb less_irrefl rfl
  have h2 : (allB T).countP (fun _ => true) ≤ (allB T).length := List.countP_le_length
  exact Nat.lt_of_lt_of_le h h2
theorem TOk.rk_iff {T : List (List Int)} (h : TOk T) {b c : Nat × Nat} (hb : b ∈ allB T) (hc : c ∈ allB T) : rk T b < rk T c ↔ less T b c = true := by
  constructor
  · intro hr
    by_cases e : b = c
    · subst e; omega
    · rcases h.total hb hc e with g | g
      · exact g
      · have := rk_lt hc g; omega
  · exact rk_lt hb
theorem TOk.rk_inj {T : List (List Int)} (h : TOk T) {b c : Nat × Nat} (hb : b ∈ allB T) (hc : c ∈ allB T) (e : rk T b = rk T c) : b = c := by
  refine Classical.byContradiction fun hne => ?_
  rcases h.total hb hc hne with g | g
  · have := rk_lt hb g; omega
  · have := rk_lt hc g; omega
/-- What is standard is in order. -/
theorem TOk.std {T : List (List Int)} (h : TOk T) : TOk (std T) := by
  refine ⟨fun i j hi hj => ?_, fun i j hi hj => ?_⟩
  · rw [std_length] at hi
    rw [std_len] at hj
    rw [std_ent hi (by omega), std_ent hi hj]
    have := rk_lt (T := T) (b := (i, j)) (c := (i, j + 1)) (mem_allB.2 ⟨hi, by simp only; omega⟩) (less_iff.2 (by have := h.row i j hi hj; simp only; omega))
    omega
  · rw [std_length] at hi
    rw [std_len] at hj
    have hc := h.col i j hi hj
    rw [std_len]
    refine ⟨hc.1, ?_⟩
    rw [std_ent (by omega) hc.1, std_ent hi hj]
    have := rk_lt (T := T) (b := (i, j)) (c := (i + 1, j)) (mem_allB.2 ⟨by simp only; omega, hc.1⟩) (less_iff.2 (.inl hc.2))
    omega
theorem TOk.std_less {T : List (List Int)} (h : TOk T) {b c : Nat × Nat} (hb : b ∈ allB T) (hc : c ∈ allB T) : less (Std1.std T) b c = less T b c := by
  have h1 := mem_allB.1 hb
  have h2 := mem_allB.1 hc
  rw [Bool.eq_iff_iff, less_iff, std_ent h1.1 h1.2, std_ent h2.1 h2.2, ← h.rk_iff hb hc]
  constructor
  · rintro (g | ⟨g, g'⟩)
    · have g : ((rk T (b.1, b.2) : Nat) : Int) + 1 < ((rk T (c.1, c.2) : Nat) : Int) + 1 := g
      have : rk T (b.1, b.2) < rk T (c.1, c.2) := by omega
      exact this
    · have e : rk T (b.1, b.2) = rk T (c.1, c.2) := by omega
      have := h.rk_inj (b := (b.1, b.2)) (c := (c.1, c.2)) hb hc e
      have : b.2 = c.2 := congrArg Prod.snd this
      omega
  · intro g
    left
    have : rk T (b.1, b.2) < rk T (c.1, c.2) := g
    omega
/-- Twice is once. -/
theorem TOk.std_std {T : List (List Int)} (h : TOk T) : Std1.std (Std1.std T) = Std1.std T := by
  have hrk : ∀ b ∈ allB T, rk (Std1.std T) b = rk T b := fun b hb => by
    unfold rk
    rw [std_allB]
    refine List.countP_congr (fun c hc => ?_)
    rw [h.std_less hc hb]
  apply List.ext_getElem (by rw [std_length])
  intro i h1 h2
  have hi : i < T.length := by rw [std_length] at h2; exact h2
  simp only [Std1.std, List.getElem_map, List.getElem_range]
  show List.map _ (List.range (len (Std1.std T) i)) = _
  rw [std_len]
  refine List.map_congr_left (fun j hj => ?_)
  have hb : (i, j) ∈ allB T := mem_allB.2 ⟨hi, List.mem_range.1 hj⟩
  have := hrk _ hb
  show ((rk (Std1.std T) (i, j) : Nat) : Int) + 1 = _
  rw [this]
theorem std_flatten (T : List (List Int)) : (Std1.std T).flatten = (allB T).map (fun b => ((rk T b : Nat) : Int) + 1) := by
  unfold Std1.std allB
  rw [List.map_flatMap, List.flatMap_def]
  congr 1
  refine List.map_congr_left (fun i _ => ?_)
  rw [List.map_map]; rfl
/-- Each of 1 to n once. -/
theorem TOk.std_perm {T : List (List Int)} (h : TOk T) : (Std1.std T).flatten.Nodup ∧ ∀ x ∈ (Std1.std T).flatten, 1 ≤ x ∧ x ≤ ((Std1.std T).flatten.length : Int) := by
  rw [std_flatten]
  refine ⟨?_, fun x hx => ?_⟩
  · unfold List.Nodup
    rw [List.pairwise_map]
    refine (nodup_allB T).imp_of_mem (fun {b c} hb hc hne e => hne (h.rk_inj hb hc (by omega)))
  · obtain ⟨b, hb, rfl⟩ := List.mem_map.1 hx
    have := rk_len hb
    rw [List.length_map]
    omega
/-- The i-th of a list in order has i before it. -/
theorem sorted_rank {T : List (List Int)} : ∀ {L : List (Nat × Nat)}, L.Pairwise (fun b c => less T b c = true) → ∀ i (hi : i < L.length), L.countP (fun c => less T c L[i]) = i
  | b :: L, h, 0, _ => by
    rw [List.countP_eq_zero]
    intro c hc
    rcases List.mem_cons.1 hc with e | hc
    · subst e; simp [less_irrefl]
    · have := (List.pairwise_cons.1 h).1 c hc
      intro g
      have := less_trans this g
      simp [less_irrefl] at this
  | b :: L, h, i + 1, hi => by
    have hi' : i < L.length := by simpa using hi
    rw [List.countP_cons, List.getElem_cons_succ, sorted_rank (List.pairwise_cons.1 h).2 i hi', if_pos ((List.pairwise_cons.1 h).1 _ (List.getElem_mem hi'))]
theorem rank_of_sorted {T : List (List Int)} {L : List (Nat × Nat)} (hp : L.Perm (allB T)) (h : L.Pairwise (fun b c => less T b c = true)) {i : Nat} (hi : i < L.length) : rk T L[i] = i := by
  unfold rk
  rw [← hp.countP_eq]
  exact sorted_rank h i hi
end Go.Proofs.YtmlmdklheiafpaaDoor.Std1
