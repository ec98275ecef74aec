/-
  Plain: trees by the order in which places are come to; sorted lists.
-/
import Derived.Test.YtdmpbbgcifodeaaPruM
namespace Go.Proofs.Ytdmpbbgcifodeaa

/-! Sorted lists of one stock are the same. -/
def le2 (x y : Edge) : Prop := x.1 < y.1 ∨ (x.1 = y.1 ∧ x.2 ≤ y.2)
def ltE (x y : Edge) : Bool := decide (x.1 < y.1) || (decide (x.1 = y.1) && decide (x.2 < y.2))
theorem le2_anti {x y : Edge} (h : le2 x y) (h' : le2 y x) : x = y := by
  unfold le2 at h h'
  exact Prod.ext (by omega) (by omega)
theorem sorted_same : ∀ {a b : List Edge}, a.Perm b → a.Pairwise le2 → b.Pairwise le2 → a = b
  | [], b, hp, _, _ => (List.Perm.nil_eq hp)
  | x :: a, b, hp, ha, hb => by
    cases b with
    | nil => exact absurd hp.length_eq (by simp)
    | cons y b =>
      have hxy : x = y := by
        have hx : x ∈ y :: b := hp.subset (by simp)
        have hy : y ∈ x :: a := hp.symm.subset (by simp)
        rcases List.mem_cons.1 hx with h | h
        · exact h
        · rcases List.mem_cons.1 hy with h2 | h2
          · exact h2.symm
          · exact le2_anti ((List.pairwise_cons.1 ha).1 y h2) ((List.pairwise_cons.1 hb).1 x h)
      subst hxy
      rw [sorted_same hp.cons_inv (List.pairwise_cons.1 ha).2 (List.pairwise_cons.1 hb).2]
def insE (p : Edge) : List Edge → List Edge
  | [] => [p]
  | x :: xs => if ltE x p = true then x :: insE p xs else p :: x :: xs
theorem insE_perm (p : Edge) : ∀ l : List Edge, (insE p l).Perm (p :: l)
  | [] => List.Perm.refl _
  | x :: xs => by
    unfold insE
    split
    · exact ((insE_perm p xs).cons x).trans (List.Perm.swap p x xs)
    · exact List.Perm.refl _
theorem ltE_le {x y : Edge} (h : ltE x y = true) : le2 x y := by
  unfold ltE at h; unfold le2
  simp at h
  omega
theorem not_ltE_le {x y : Edge} (h : ¬ ltE x y = true) : le2 y x := by
  unfold ltE at h; unfold le2
  simp at h
  omega
theorem le2_trans {x y z : Edge} (h : le2 x y) (h' : le2 y z) : le2 x z := by unfold le2 at *; omega
theorem insE_sorted (p : Edge) : ∀ {l : List Edge}, l.Pairwise le2 → (insE p l).Pairwise le2
  | [], _ => by simp [insE]
  | x :: xs, h => by
    have hx := List.pairwise_cons.1 h
    unfold insE
    split
    · rename_i c
      refine List.pairwise_cons.2 ⟨fun y hy => ?_, insE_sorted p hx.2⟩
      rcases List.mem_cons.1 ((insE_perm p xs).subset hy) with rfl | hy
      · exact ltE_le c
      · exact hx.1 y hy
    · rename_i c
      refine List.pairwise_cons.2 ⟨fun y hy => ?_, h⟩
      rcases List.mem_cons.1 hy with rfl | hy
      · exact not_ltE_le c
      · exact le2_trans (not_ltE_le c) (hx.1 y hy)
theorem insE_at (p : Edge) : ∀ (l : List Edge) (k : Nat), k ≤ l.length → (∀ i x, i < k → l[i]? = some x → ltE x p = true) → (∀ x, l[k]? = some x → ltE x p = false) → insE p l = l.take k ++ p :: l.drop k
  | [], k, hk, _, _ => by
    obtain rfl : k = 0 := by simpa using hk
    rfl
  | x :: xs, 0, _, _, h => by
    unfold insE
    rw [h x rfl]; rfl
  | x :: xs, k + 1, hk, h, h' => by
    unfold insE
    rw [if_pos (h 0 x (by omega) rfl), insE_at p xs k (by simpa using hk) (fun i y hi hy => h (i + 1) y (by omega) hy) (fun y hy => h' y hy)]
    rfl
/-- The edges in order. -/
def edgedL (l : List Edge) : List Edge := l.foldl (fun out x => insE (nrm x) out) []
theorem edged_aux : ∀ (l out : List Edge), out.Pairwise le2 → (l.foldl (fun out x => insE (nrm x) out) out).Pairwise le2 ∧ (l.foldl (fun out x => insE (nrm x) out) out).Perm (l.map nrm ++ out)
  | [], out, h => ⟨h, List.Perm.refl _⟩
  | x :: l, out, h => by
    obtain ⟨a, b⟩ := edged_aux l (insE (nrm x) out) (insE_sorted _ h)
    refine ⟨a, b.trans ?_⟩
    exact ((insE_perm (nrm x) out).append_left (l.map nrm)).trans List.perm_middle
theorem edged_sorted (l : List Edge) : (edgedL l).Pairwise le2 := (edged_aux l [] List.Pairwise.nil).1
theorem edged_perm (l : List Edge) : (edgedL l).Perm (l.map nrm) := by
  have := (edged_aux l [] List.Pairwise.nil).2
  rwa [List.append_nil] at this
/-- What is sorted, of these edges, is edgedL. -/
theorem edged_of {l s : List Edge} (hp : s.Perm (l.map nrm)) (hs : s.Pairwise le2) : s = edgedL l := sorted_same (hp.trans (edged_perm l).symm) hs (edged_sorted l)
theorem edged_same {l l' : List Edge} (h : (l.map nrm).Perm (l'.map nrm)) : edgedL l = edgedL l' := edged_of ((edged_perm l).trans h) (edged_sorted l)

/-! The order in which places are come to. -/
def kids (d : List Int) (k : Nat) : List Int := ((List.range d.length).filter (fun i => decide (d.getD i 0 = (k : Int)))).map (fun i : Nat => (i : Int) + 1)
def Qd (d : List Int) : Nat → List Int
  | 0 => [0]
  | k + 1 => Qd d k ++ kids d (k + 1)
theorem mem_kids {d : List Int} {k : Nat} {u : Int} : u ∈ kids d k ↔ ∃ i : Nat, i < d.length ∧ d.getD i 0 = (k : Int) ∧ u = (i : Int) + 1 := by
  unfold kids
  simp only [List.mem_map, List.mem_filter, List.mem_range, decide_eq_true_eq]
  constructor
  · rintro ⟨i, ⟨h1, h2⟩, rfl⟩; exact ⟨i, h1, h2, rfl⟩
  · rintro ⟨i, h1, h2, rfl⟩; exact ⟨i, ⟨h1, h2⟩, rfl⟩
theorem kids_sorted (d : List Int) (k : Nat) : (kids d k).Pairwise (· < ·) := by
  unfold kids
  rw [List.pairwise_map]
  exact (List.Pairwise.filter _ List.pairwise_lt_range).imp (fun h => by omega)
theorem mem_Qd {d : List Int} {u : Int} : ∀ {k : Nat}, u ∈ Qd d k ↔ u = 0 ∨ ∃ j, 1 ≤ j ∧ j ≤ k ∧ u ∈ kids d j
  | 0 => by
    simp only [Qd, List.mem_singleton]
    constructor
    · exact .inl
    · rintro (h | ⟨j, h1, h2, _⟩)
      · exact h
      · omega
  | k + 1 => by
    simp only [Qd, List.mem_append]
    rw [mem_Qd]
    constructor
    · rintro ((h | ⟨j, h1, h2, h3⟩) | h)
      · exact .inl h
      · exact .inr ⟨j, h1, by omega, h3⟩
      · exact .inr ⟨k + 1, by omega, Nat.le_refl _, h⟩
    · rintro (h | ⟨j, h1, h2, h3⟩)
      · exact .inl (.inl h)
      · by_cases e : j = k + 1
        · exact .inr (e ▸ h3)
        · exact .inl (.inr ⟨j, h1, by omega, h3⟩)
theorem Qd_nodup (d : List Int) : ∀ k, (Qd d k).Nodup
  | 0 => by simp [Qd]
  | k + 1 => by
    simp only [Qd]
    refine List.nodup_append.2 ⟨Qd_nodup d k, sorted_nodup (kids_sorted d (k + 1)), fun a ha b hb e => ?_⟩
    subst e
    obtain ⟨i, h1, h2, h3⟩ := mem_kids.1 hb
    rcases mem_Qd.1 ha with h | ⟨j, j1, j2, hj⟩
    · omega
    · obtain ⟨i', h1', h2', h3'⟩ := mem_kids.1 hj
      have : i = i' := by omega
      subst this
      omega
theorem Qd_len_mono (d : List Int) {k m : Nat} (h : k ≤ m) : (Qd d k).length ≤ (Qd d m).length := by
  induction m with
  | zero => obtain rfl : k = 0 := by omega
            exact Nat.le_refl _
  | succ m ih =>
    by_cases e : k = m + 1
    · subst e; exact Nat.le_refl _
    · have := ih (by omega)
      simp only [Qd, List.length_append]; omega
theorem Qd_get (d : List Int) {k m i : Nat} (h : k ≤ m) (hi : i < (Qd d k).length) : (Qd d m).getD i 0 = (Qd d k).getD i 0 := by
  induction m with
  | zero => obtain rfl : k = 0 := by omega
            rfl
  | succ m ih =>
    by_cases e : k = m + 1
    · subst e; rfl
    · rw [← ih (by omega)]
      have := Qd_len_mono d (k := k) (m := m) (by omega)
      simp only [Qd, List.getD_eq_getElem?_getD]
      rw [List.getElem?_append_left (by omega)]
/-- Kids are come to behind all that is come to before. -/
theorem kid_pos {d : List Int} {k m p : Nat} {u : Int} (hu : u ∈ kids d (k + 1)) (hm : k + 1 ≤ m) (e : (Qd d m).getD p 0 = u) : (Qd d k).length ≤ p := by
  refine Nat.le_of_not_lt fun hlt => ?_
  rw [Qd_get d (by omega) hlt] at e
  have hmem : u ∈ Qd d k := by
    rw [← e, List.getD_eq_getElem?_getD, List.getElem?_eq_getElem hlt]
    exact List.getElem_mem hlt
  obtain ⟨i, h1, h2, h3⟩ := mem_kids.1 hu
  rcases mem_Qd.1 hmem with h | ⟨j, j1, j2, hj⟩
  · omega
  · obtain ⟨i', h1', h2', h3'⟩ := mem_kids.1 hj
    have : i = i' := by omega
    subst this
    omega
theorem kids_len (d : List Int) (k : Nat) : (kids d k).length = d.countP (fun x => decide (x = (k : Int))) := by
  unfold kids
  rw [List.length_map, ← List.countP_eq_length_filter]
  have : d = (List.range d.length).map (fun i => d.getD i 0) := by
    apply List.ext_getElem (by simp)
    intro i h1 h2
    simp [h1]
  conv => rhs; rw [this]
  rw [List.countP_map]
  rfl
theorem Qd_len {d : List Int} (h1 : ∀ x ∈ d, 1 ≤ x) : ∀ k : Nat, (Qd d k).length = d.countP (fun x => decide (x ≤ (k : Int))) + 1
  | 0 => by
    have : d.countP (fun x => decide (x ≤ ((0 : Nat) : Int))) = 0 := by
      rw [List.countP_eq_zero]; intro x hx; have := h1 x hx; simp; omega
    rw [this]; rfl
  | k + 1 => by
    simp only [Qd, List.length_append]
    rw [Qd_len h1 k, kids_len]
    have : ∀ d : List Int, d.countP (fun x => decide (x ≤ ((k + 1 : Nat) : Int))) = d.countP (fun x => decide (x ≤ (k : Int))) + d.countP (fun x => decide (x = ((k + 1 : Nat) : Int))) := by
      intro d
      induction d with
      | nil => rfl
      | cons a d ih =>
        rw [List.countP_cons, List.countP_cons, List.countP_cons, ih]
        by_cases c1 : a ≤ (k : Int)
        · rw [decide_eq_true c1, decide_eq_true (p := a ≤ ((k + 1 : Nat) : Int)) (by omega), decide_eq_false (p := a = ((k + 1 : Nat) : Int)) (by omega)]; simp; omega
        · by_cases c2 : a = ((k + 1 : Nat) : Int)
          · rw [decide_eq_false c1, decide_eq_true (p := a ≤ ((k + 1 : Nat) : Int)) (by omega), decide_eq_true c2]; simp; omega
          · rw [decide_eq_false c1, decide_eq_false (p := a ≤ ((k + 1 : Nat) : Int)) (by omega), decide_eq_false c2]; simp
    rw [this d]; omega
end Go.Proofs.Ytdmpbbgcifodeaa
