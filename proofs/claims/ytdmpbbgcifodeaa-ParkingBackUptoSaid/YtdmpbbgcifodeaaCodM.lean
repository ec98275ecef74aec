/-
  Plain: PRUEFER'S told of lists of neighbours.
-/
import Derived.Test.YtdmpbbgcifodeaaLeafM
namespace Go.Proofs.Ytdmpbbgcifodeaa

/-- The neighbours of u, in the edges' order. -/
def nb1 (u : Int) (x : Edge) : List Int := (if x.1 = u then [x.2] else []) ++ (if x.2 = u then [x.1] else [])
def nb (E : List Edge) (u : Int) : List Int := E.flatMap (nb1 u)
theorem nb_nil (u : Int) : nb [] u = [] := rfl
theorem nb_cons (x : Edge) (E : List Edge) (u : Int) : nb (x :: E) u = nb1 u x ++ nb E u := by simp [nb]
theorem nb_snoc (x : Edge) (E : List Edge) (u : Int) : nb (E ++ [x]) u = nb E u ++ nb1 u x := by simp [nb]
theorem mem_nb1 {u y : Int} {x : Edge} : y ∈ nb1 u x ↔ x = (u, y) ∨ x = (y, u) := by
  obtain ⟨a, b⟩ := x
  unfold nb1
  by_cases h1 : a = u <;> by_cases h2 : b = u <;> simp [h1, h2] <;> omega
theorem mem_nb {u y : Int} {E : List Edge} : y ∈ nb E u ↔ (u, y) ∈ E ∨ (y, u) ∈ E := by
  unfold nb
  rw [List.mem_flatMap]
  constructor
  · rintro ⟨x, hx, h⟩
    rcases mem_nb1.1 h with rfl | rfl
    · exact .inl hx
    · exact .inr hx
  · rintro (h | h)
    · exact ⟨_, h, mem_nb1.2 (.inl rfl)⟩
    · exact ⟨_, h, mem_nb1.2 (.inr rfl)⟩
theorem nb_len {E : List Edge} (h : ∀ x ∈ E, x.1 ≠ x.2) (u : Int) : (nb E u).length = degN E u := by
  induction E with
  | nil => rfl
  | cons x E ih =>
    have hx := h x (by simp)
    rw [nb_cons, List.length_append, ih (fun y hy => h y (by simp [hy]))]
    unfold degN
    rw [List.countP_cons]
    obtain ⟨a, b⟩ := x
    simp only at hx
    unfold nb1 touch
    by_cases h1 : a = u
    · have h2 : ¬ b = u := fun e => hx (h1.trans e.symm)
      simp [h1, h2]; omega
    · by_cases h2 : b = u <;> simp [h1, h2]; omega
/-- What is left where the edges at v go. -/
theorem nb_drop (E : List Edge) {u v : Int} (hu : u ≠ v) : nb (E.filter (fun x => !touch v x)) u = (nb E u).filter (fun y => decide (y ≠ v)) := by
  induction E with
  | nil => rfl
  | cons x E ih =>
    rw [nb_cons, List.filter_append, ← ih]
    obtain ⟨a, b⟩ := x
    by_cases ht : touch v (a, b) = true
    · rw [List.filter_cons_of_neg (by simp [ht])]
      have hz : (nb1 u (a, b)).filter (fun y => decide (y ≠ v)) = [] := by
        rw [List.filter_eq_nil_iff]
        intro y hy
        have := touch_iff.1 ht
        rcases mem_nb1.1 hy with e | e <;> simp only [Prod.mk.injEq] at e <;> simp only at this <;> simp <;> omega
      rw [hz]; rfl
    · rw [List.filter_cons_of_pos (by simp [ht]), nb_cons]
      congr 1
      symm
      rw [List.filter_eq_self]
      intro y hy
      have hn : ¬ (a = v ∨ b = v) := fun h => ht (touch_iff.2 h)
      rcases mem_nb1.1 hy with e | e <;> simp only [Prod.mk.injEq] at e <;> simp <;> omega
theorem erase_filter {p : Edge → Bool} : ∀ {E : List Edge} {e : Edge}, e ∈ E → p e = true → E.countP p = 1 → E.erase e = E.filter (fun x => !p x)
  | x :: E, e, he, hp, hc => by
    rw [List.countP_cons] at hc
    by_cases h : x = e
    · subst h
      rw [hp] at hc
      rw [List.erase_cons_head, List.filter_cons_of_neg (by simp [hp])]
      symm
      rw [List.filter_eq_self]
      intro y hy
      have hz : E.countP p = 0 := by simpa using hc
      have := List.countP_eq_zero.1 hz y hy
      simpa using this
    · have he' : e ∈ E := by
        rcases List.mem_cons.1 he with h' | h'
        · exact absurd h'.symm h
        · exact h'
      have hpos := List.countP_pos_iff.2 ⟨e, he', hp⟩
      have hx : p x = false := by
        cases hh : p x with
        | false => rfl
        | true => rw [hh, if_pos rfl] at hc; omega
      rw [hx] at hc
      rw [List.erase_cons_tail (by simpa using h), List.filter_cons_of_pos (by simp [hx]), erase_filter he' hp (by simpa using hc)]

/-- The lists, S being left, E the edges left. -/
structure NbOk (r : Nat → List Int) (n : Nat) (S : List Int) (E : List Edge) : Prop where
  inn : ∀ u : Nat, 1 ≤ u → u ≤ n → (u : Int) ∈ S → r u = nb E (u : Int)
  out : ∀ u : Nat, 1 ≤ u → u ≤ n → (u : Int) ∉ S → r u = []
/-- A round: what is found, and what is left. -/
theorem NbOk.step {r : Nat → List Int} {n : Nat} {S c : List Int} {E : List Edge} {v w : Int} {e : Edge} (h : NbOk r n S E) (hsub : ∀ u ∈ S, 1 ≤ u ∧ u ≤ n) (hn : S.Nodup)
    (hv : v ∈ S) (hno : v ∉ w :: c) (hmin : ∀ u ∈ S, u < v → u ∈ w :: c) (hw : w ∈ S) (hne : w ≠ v) (he : e = (v, w) ∨ e = (w, v)) (hm : e ∈ E) (hr : Run (S.erase v) c (E.erase e)) :
    ∃ k y : Nat, v = k ∧ w = y ∧ 1 ≤ k ∧ k ≤ n ∧ 1 ≤ y ∧ y ≤ n ∧ r k = [w] ∧ (∀ u : Nat, 1 ≤ u → u < k → (r u).length ≠ 1) ∧ (∀ u : Nat, 1 ≤ u → u ≤ n → (r u).length ≤ E.length) ∧ r y ≠ [] ∧ y ≠ k ∧
      ∀ r' : Nat → List Int, r' k = [] → r' y = (r y).filter (fun x => decide (x ≠ v)) → (∀ u, u ≠ k → u ≠ y → r' u = r u) → NbOk r' n (S.erase v) (E.erase e) := by
  have hrun := Run.step hv hno hmin hw hne he hm hr
  obtain ⟨d1, d2, d3⟩ := hrun.deg hn
  have hloop : ∀ x ∈ E, x.1 ≠ x.2 := fun x hx => (d1 x hx).2.2
  have hlen : ∀ u ∈ S, (nb E u).length = (w :: c).count u + 1 := fun u hu => by rw [nb_len hloop, d3 u hu]
  have b1 := hsub v hv
  have b2 := hsub w hw
  obtain ⟨k, rfl⟩ : ∃ k : Nat, v = k := ⟨v.toNat, by omega⟩
  obtain ⟨y, rfl⟩ : ∃ k : Nat, w = k := ⟨w.toNat, by omega⟩
  have hl1 : (nb E (k : Int)).length = 1 := by rw [hlen _ hv, List.count_eq_zero_of_not_mem hno]
  have hmem : (y : Int) ∈ nb E (k : Int) := mem_nb.2 (by rcases he with rfl | rfl; exact .inl hm; exact .inr hm)
  have hmem2 : (k : Int) ∈ nb E (y : Int) := mem_nb.2 (by rcases he with rfl | rfl; exact .inr hm; exact .inl hm)
  have hone : nb E (k : Int) = [(y : Int)] := by
    match hh : nb E (k : Int), hl1 with
    | [z], _ => rw [hh] at hmem; simp at hmem; rw [hmem]
  have hdeg : degN E (k : Int) = 1 := by rw [← nb_len hloop]; exact hl1
  have her := erase_filter (p := touch (k : Int)) hm ((edge_touch he).2 (.inl rfl)) hdeg
  refine ⟨k, y, rfl, rfl, by omega, by omega, by omega, by omega, (h.inn k (by omega) (by omega) hv).trans hone, fun u u1 u2 => ?_, fun u u1 u2 => ?_, ?_, by omega, fun r' r1 r2 r3 => ⟨fun u u1 u2 hu => ?_, fun u u1 u2 hu => ?_⟩⟩
  · by_cases hu : (u : Int) ∈ S
    · rw [h.inn u u1 (by omega) hu, hlen _ hu]
      have := List.count_pos_iff.2 (hmin (u : Int) hu (by omega))
      omega
    · rw [h.out u u1 (by omega) hu]; decide
  · by_cases hu : (u : Int) ∈ S
    · rw [h.inn u u1 u2 hu, nb_len hloop]; exact List.countP_le_length
    · rw [h.out u u1 u2 hu]; simp
  · rw [h.inn y (by omega) (by omega) hw]; exact List.ne_nil_of_mem hmem2
  · obtain ⟨a, b⟩ := hn.mem_erase_iff.1 hu
    rw [her, nb_drop E a]
    by_cases e1 : u = y
    · subst e1; rw [r2, h.inn u u1 u2 b]
    · rw [r3 u (by omega) e1, h.inn u u1 u2 b]
      symm
      rw [List.filter_eq_self]
      intro z hz
      simp only [decide_eq_true_eq]
      intro ez
      subst ez
      have hx : ∃ x ∈ E, x = ((u : Int), (k : Int)) ∨ x = ((k : Int), (u : Int)) := by
        rcases mem_nb.1 hz with h' | h'
        · exact ⟨_, h', .inl rfl⟩
        · exact ⟨_, h', .inr rfl⟩
      obtain ⟨x, hx, hxe⟩ := hx
      have hxt : touch (k : Int) x = true := touch_iff.2 (by rcases hxe with rfl | rfl; exact .inr rfl; exact .inl rfl)
      have hee := leaf_edge hdeg hm hx ((edge_touch he).2 (.inl rfl)) hxt
      subst hee
      have := far_end he (hxe.symm)
      omega
  · by_cases e1 : u = k
    · subst e1; exact r1
    · have hS : (u : Int) ∉ S := fun hS => hu (hn.mem_erase_iff.2 ⟨by omega, hS⟩)
      rw [r3 u e1 (fun e => hS (by rw [e]; exact hw)), h.out u u1 u2 hS]
end Go.Proofs.Ytdmpbbgcifodeaa
