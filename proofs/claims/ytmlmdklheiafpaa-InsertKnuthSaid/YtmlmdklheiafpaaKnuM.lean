/-
  Plain: KNUTH's steps of a word, as insert.Moves finds them.
-/
import Derived.Test.YtmlmdklheiafpaaPlacT
namespace Go.Proofs.Ytmlmdklheiafpaa

/-- At three letters: do the last two change places? the first two? -/
def StHi (a b c : Int) : Prop := (b < a ∧ a ≤ c) ∨ (c < a ∧ a ≤ b)
def StLo (a b c : Int) : Prop := (a ≤ c ∧ c < b) ∨ (b ≤ c ∧ c < a)
instance (a b c : Int) : Decidable (StHi a b c) := by unfold StHi; infer_instance
instance (a b c : Int) : Decidable (StLo a b c) := by unfold StLo; infer_instance
def KStep (w v : List Int) : Prop := ∃ u t a b c, w = u ++ ([a, b, c] ++ t) ∧ ((StHi a b c ∧ v = u ++ ([a, c, b] ++ t)) ∨ (StLo a b c ∧ v = u ++ ([b, a, c] ++ t)))
theorem KStep.symm {w v : List Int} (h : KStep w v) : KStep v w := by
  obtain ⟨u, t, a, b, c, rfl, h⟩ := h
  rcases h with ⟨h, rfl⟩ | ⟨h, rfl⟩
  · exact ⟨u, t, a, c, b, rfl, .inl ⟨h.elim .inr .inl, rfl⟩⟩
  · exact ⟨u, t, b, a, c, rfl, .inr ⟨h.elim .inr .inl, rfl⟩⟩
theorem Kn.mid {a b : List Int} (u t : List Int) (h : Kn a b) : Kn (u ++ (a ++ t)) (u ++ (b ++ t)) := by
  have := h.ctx u t
  simpa [List.append_assoc] using this
theorem KStep.kn {w v : List Int} (h : KStep w v) : Kn w v := by
  obtain ⟨u, t, a, b, c, rfl, h⟩ := h
  rcases h with ⟨h, rfl⟩ | ⟨h, rfl⟩
  · rcases h with ⟨h1, h2⟩ | ⟨h1, h2⟩
    · exact (Kn.one (K1.a b a c h1 h2)).symm.mid u t
    · exact (Kn.one (K1.a c a b h1 h2)).mid u t
  · rcases h with ⟨h1, h2⟩ | ⟨h1, h2⟩
    · exact (Kn.one (K1.b a c b h1 h2)).mid u t
    · exact (Kn.one (K1.b b c a h1 h2)).symm.mid u t
theorem KStep.ne {w v : List Int} (h : KStep w v) : v ≠ w := by
  obtain ⟨u, t, a, b, c, rfl, h⟩ := h
  intro e
  rcases h with ⟨h, rfl⟩ | ⟨h, rfl⟩
  · have e2 := List.append_cancel_left e
    simp at e2
    unfold StHi at h
    omega
  · have e2 := List.append_cancel_left e
    simp at e2
    unfold StLo at h
    omega
theorem KStep.chk {w v : List Int} (h : KStep w v) : wordChk v = wordChk w := by
  have hp := h.kn.perm
  unfold wordChk
  have e : IsWord v ↔ IsWord w := ⟨fun hh x hx => hh x (hp.mem_iff.1 hx), fun hh x hx => hh x (hp.mem_iff.2 hx)⟩
  rw [hp.length_eq]
  by_cases c : IsWord w
  · rw [if_pos c, if_pos (e.2 c)]
  · rw [if_neg c, if_neg (fun hh => c (e.1 hh))]

/-- Two beside each other change places. -/
def swp (w : List Int) (i : Nat) : List Int := (w.set i (w.getD (i + 1) 0)).set (i + 1) (w.getD i 0)
theorem swp_cons (x : Int) (w : List Int) (i : Nat) : swp (x :: w) (i + 1) = x :: swp w i := by simp [swp]
theorem swp_app : ∀ (u w : List Int) (i : Nat), swp (u ++ w) (u.length + i) = u ++ swp w i
  | [], w, i => by simp
  | x :: u, w, i => by
    have e : (x :: u).length + i = u.length + i + 1 := by simp; omega
    rw [e, List.cons_append, swp_cons, swp_app u w i, List.cons_append]
theorem swp_len (w : List Int) (i : Nat) : (swp w i).length = w.length := by simp [swp]
theorem three {w : List Int} {i : Nat} (h : i + 2 < w.length) : w = w.take i ++ ([w.getD i 0, w.getD (i + 1) 0, w.getD (i + 2) 0] ++ w.drop (i + 3)) := by
  have e1 := List.take_append_drop i w
  have e2 : w.drop i = w[i] :: w[i + 1] :: w[i + 2] :: w.drop (i + 3) := by
    rw [List.drop_eq_getElem_cons (by omega), List.drop_eq_getElem_cons (by omega), List.drop_eq_getElem_cons (by omega)]
  rw [e2] at e1
  rw [getD_get (by omega), getD_get (by omega), getD_get h]
  exact e1.symm
/-- What is found at i; up to i. -/
def mvAt (w : List Int) (i : Nat) : List (List Int) :=
  (if StHi (w.getD i 0) (w.getD (i + 1) 0) (w.getD (i + 2) 0) then [swp w (i + 1)] else []) ++ (if StLo (w.getD i 0) (w.getD (i + 1) 0) (w.getD (i + 2) 0) then [swp w i] else [])
def mvs (w : List Int) (n : Nat) : List (List Int) := (List.range n).flatMap (mvAt w)
theorem mvs_succ (w : List Int) (n : Nat) : mvs w (n + 1) = mvs w n ++ mvAt w n := by simp [mvs, List.range_succ]
theorem mvAt_len (w : List Int) (i : Nat) : (mvAt w i).length ≤ 2 := by
  unfold mvAt
  split <;> split <;> simp
theorem mvs_len (w : List Int) : ∀ n, (mvs w n).length ≤ 2 * n
  | 0 => by simp [mvs]
  | n + 1 => by
    rw [mvs_succ, List.length_append]
    have := mvs_len w n
    have := mvAt_len w n
    omega
theorem mem_mvAt {w v : List Int} {i : Nat} (h : i + 2 < w.length) (hv : v ∈ mvAt w i) : KStep w v := by
  have h3 := three h
  have hl : (w.take i).length = i := by rw [List.length_take]; omega
  obtain ⟨a, ha⟩ : ∃ a, a = w.getD i 0 := ⟨_, rfl⟩
  obtain ⟨b, hb⟩ : ∃ b, b = w.getD (i + 1) 0 := ⟨_, rfl⟩
  obtain ⟨c, hc⟩ : ∃ c, c = w.getD (i + 2) 0 := ⟨_, rfl⟩
  unfold mvAt at hv
  rw [← ha, ← hb, ← hc] at hv h3
  obtain ⟨u, hu⟩ : ∃ u, u = w.take i := ⟨_, rfl⟩
  obtain ⟨t, ht⟩ : ∃ t, t = w.drop (i + 3) := ⟨_, rfl⟩
  rw [← hu, ← ht] at h3
  rw [← hu] at hl
  have e1 : swp w (i + 1) = u ++ ([a, c, b] ++ t) := by
    rw [h3, ← hl, swp_app]; rfl
  have e0 : swp w i = u ++ ([b, a, c] ++ t) := by
    have := swp_app u ([a, b, c] ++ t) 0
    rw [← h3, Nat.add_zero, hl] at this
    rw [this]; rfl
  refine ⟨u, t, a, b, c, h3, ?_⟩
  rcases List.mem_append.1 hv with g | g
  · split at g
    · rw [List.mem_singleton] at g
      exact .inl ⟨by assumption, by rw [g, e1]⟩
    · cases g
  · split at g
    · rw [List.mem_singleton] at g
      exact .inr ⟨by assumption, by rw [g, e0]⟩
    · cases g
theorem step_mvAt {w v : List Int} (h : KStep w v) : ∃ i, i + 2 < w.length ∧ v ∈ mvAt w i := by
  obtain ⟨u, t, a, b, c, rfl, h⟩ := h
  refine ⟨u.length, by simp, ?_⟩
  have ga : (u ++ ([a, b, c] ++ t)).getD u.length 0 = a := by
    rw [List.getD_eq_getElem?_getD, List.getElem?_append_right (Nat.le_refl _)]; simp
  have gb : (u ++ ([a, b, c] ++ t)).getD (u.length + 1) 0 = b := by
    rw [List.getD_eq_getElem?_getD, List.getElem?_append_right (by omega), show u.length + 1 - u.length = 1 by omega]; rfl
  have gc : (u ++ ([a, b, c] ++ t)).getD (u.length + 2) 0 = c := by
    rw [List.getD_eq_getElem?_getD, List.getElem?_append_right (by omega), show u.length + 2 - u.length = 2 by omega]; rfl
  unfold mvAt
  rw [ga, gb, gc]
  rcases h with ⟨h, rfl⟩ | ⟨h, rfl⟩
  · rw [if_pos h]
    refine List.mem_append.2 (.inl ?_)
    rw [List.mem_singleton, swp_app]; rfl
  · rw [if_pos h]
    refine List.mem_append.2 (.inr ?_)
    have := swp_app u ([a, b, c] ++ t) 0
    rw [Nat.add_zero] at this
    rw [List.mem_singleton, this]; rfl
/-- All that is found: KNUTH's steps. -/
theorem mem_mvs {w v : List Int} : v ∈ mvs w (w.length - 2) ↔ KStep w v := by
  unfold mvs
  rw [List.mem_flatMap]
  constructor
  · rintro ⟨i, hi, hv⟩
    have := List.mem_range.1 hi
    exact mem_mvAt (by omega) hv
  · intro h
    obtain ⟨i, hi, hv⟩ := step_mvAt h
    exact ⟨i, List.mem_range.2 (by omega), hv⟩

/-! ### the order of words; equal ones beside each other -/
def lexC : List Int → List Int → Int
  | [], [] => 0
  | [], _ :: _ => -1
  | _ :: _, [] => 1
  | x :: s, y :: t => if x < y then -1 else if y < x then 1 else lexC s t
theorem lexC_self : ∀ s, lexC s s = 0
  | [] => rfl
  | x :: s => by simp [lexC, lexC_self s]
theorem lexC_zero : ∀ {s t}, lexC s t = 0 → s = t
  | [], [], _ => rfl
  | [], _ :: _, h => by simp [lexC] at h
  | _ :: _, [], h => by simp [lexC] at h
  | x :: s, y :: t, h => by
    unfold lexC at h
    split at h
    · simp at h
    · split at h
      · simp at h
      · rw [lexC_zero h, show x = y by omega]
theorem lexC_flip : ∀ s t, lexC t s = - lexC s t
  | [], [] => rfl
  | [], _ :: _ => rfl
  | _ :: _, [] => rfl
  | x :: s, y :: t => by
    unfold lexC
    by_cases h1 : x < y
    · rw [if_neg (by omega), if_pos h1, if_pos h1]; rfl
    · by_cases h2 : y < x
      · rw [if_pos h2, if_neg h1, if_pos h2]
      · rw [if_neg h2, if_neg h1, if_neg h1, if_neg h2]; exact lexC_flip s t
theorem lexC_trans : ∀ {s t u}, lexC s t < 0 → lexC t u < 0 → lexC s u < 0
  | [], [], _, h, _ => by simp [lexC] at h
  | [], _ :: _, [], _, h => by simp [lexC] at h
  | [], _ :: _, _ :: _, _, _ => by simp [lexC]
  | _ :: _, [], _, h, _ => by simp [lexC] at h
  | _ :: _, _ :: _, [], _, h => by simp [lexC] at h
  | x :: s, y :: t, z :: u, h1, h2 => by
    unfold lexC at h1 h2 ⊢
    split at h1
    · split at h2
      · rw [if_pos (by omega)]; omega
      · split at h2
        · omega
        · rw [if_pos (by omega)]; omega
    · split at h1
      · omega
      · split at h2
        · rw [if_pos (by omega)]; omega
        · split at h2
          · omega
          · rw [if_neg (by omega), if_neg (by omega)]
            exact lexC_trans h1 h2
theorem lexC_le_trans {s t u : List Int} (h1 : ¬ lexC t s < 0) (h2 : ¬ lexC u t < 0) : ¬ lexC u s < 0 := by
  intro h
  have f1 := lexC_flip s t
  have f2 := lexC_flip t u
  by_cases a : lexC s t = 0
  · obtain rfl := lexC_zero a
    exact h2 h
  · by_cases b : lexC t u = 0
    · obtain rfl := lexC_zero b
      exact h1 h
    · have := lexC_trans (s := s) (t := t) (u := u) (by omega) (by omega)
      have f3 := lexC_flip s u
      omega
theorem lexC_vals : ∀ s t, lexC s t = -1 ∨ lexC s t = 0 ∨ lexC s t = 1
  | [], [] => .inr (.inl rfl)
  | [], _ :: _ => .inl rfl
  | _ :: _, [] => .inr (.inr rfl)
  | x :: s, y :: t => by
    unfold lexC
    split
    · exact .inl rfl
    · split
      · exact .inr (.inr rfl)
      · exact lexC_vals s t
end Go.Proofs.Ytmlmdklheiafpaa
