/-
  Plain: boxes in the order in which they are met; ranks laid one by one.
-/
import Derived.Test.YtmlmdklheiafpaaDoorStdM
namespace Go.Proofs.YtmlmdklheiafpaaDoor.Std1

theorem getD_ext {T U : List (List Int)} (h1 : T.length = U.length) (h2 : ∀ i, i < T.length → len T i = len U i) (h3 : ∀ i j, i < T.length → j < len T i → ent T i j = ent U i j) : T = U := by
  apply List.ext_getElem h1
  intro i a b
  have e1 : T.getD i [] = T[i] := by rw [List.getD_eq_getElem?_getD, List.getElem?_eq_getElem a]; rfl
  have e2 : U.getD i [] = U[i] := by rw [List.getD_eq_getElem?_getD, List.getElem?_eq_getElem b]; rfl
  have hl := h2 i a
  unfold len at hl
  rw [e1, e2] at hl
  apply List.ext_getElem hl
  intro j c d
  have hj : j < len T i := by unfold len; rw [e1]; exact c
  have := h3 i j a hj
  unfold ent at this
  rw [e1, e2, List.getD_eq_getElem?_getD, List.getD_eq_getElem?_getD, List.getElem?_eq_getElem c, List.getElem?_eq_getElem d] at this
  exact this
theorem TOk.of {T : List (List Int)} (h : FillOk T) : TOk T := by
  refine ⟨fun i j hi hj => ?_, fun i j hi hj => ?_⟩
  · have := ((h.row hi).2.2 (j + 1) hj).2.1 (by omega)
    rw [Nat.add_sub_cancel] at this
    exact this
  · have hr := h.row hi
    have h1 := hr.2.1 (by omega)
    have h2 := (hr.2.2 j hj).2.2 (by omega)
    rw [Nat.add_sub_cancel] at h1 h2
    exact ⟨Nat.lt_of_lt_of_le hj h1, h2⟩
/-- The boxes that come ahead of row i's box j. -/
def preB (T : List (List Int)) (i j : Nat) : List (Nat × Nat) := (List.range i).flatMap (fun i => (List.range (len T i)).map (fun j => (i, j))) ++ (List.range j).map (fun j => (i, j))
theorem preB_zero (T : List (List Int)) : preB T 0 0 = [] := rfl
theorem preB_next (T : List (List Int)) (i j : Nat) : preB T i j ++ [(i, j)] = preB T i (j + 1) := by simp [preB, List.range_succ]
theorem preB_row (T : List (List Int)) (i : Nat) : preB T i (len T i) = preB T (i + 1) 0 := by simp [preB, List.range_succ]
theorem preB_all (T : List (List Int)) : preB T T.length 0 = allB T := by simp [preB, allB]
theorem preB_len {T : List (List Int)} (h : ∀ i, len T i ≤ 40) : ∀ i j, (preB T i j).length ≤ 40 * i + j
  | 0, j => by simp [preB]
  | i + 1, j => by
    have ih := preB_len h i (len T i)
    have e : (preB T (i + 1) j).length = (preB T i (len T i)).length + j := by simp [preB, List.range_succ, Nat.add_assoc]
    have := h i
    omega
/-- The first q boxes of L bear their ranks. -/
def mixS (T : List (List Int)) (L : List (Nat × Nat)) (q : Nat) : List (List Int) :=
  (List.range T.length).map (fun i => (List.range (len T i)).map (fun j => if (i, j) ∈ L.take q then ((rk T (i, j) : Nat) : Int) + 1 else ent T i j))
theorem mixS_length (T : List (List Int)) (L : List (Nat × Nat)) (q : Nat) : (mixS T L q).length = T.length := by simp [mixS]
theorem mixS_len (T : List (List Int)) (L : List (Nat × Nat)) (q i : Nat) : len (mixS T L q) i = len T i := by
  unfold len
  by_cases h : i < T.length
  · simp [mixS, h, len]
  · simp [mixS, h]
theorem mixS_ent {T : List (List Int)} {L : List (Nat × Nat)} {q i j : Nat} (hi : i < T.length) (hj : j < len T i) : ent (mixS T L q) i j = if (i, j) ∈ L.take q then ((rk T (i, j) : Nat) : Int) + 1 else ent T i j := by
  simp [ent, mixS, hi, hj]
theorem mixS_zero (T : List (List Int)) (L : List (Nat × Nat)) : mixS T L 0 = T := by
  refine getD_ext (mixS_length _ _ _) (fun i _ => mixS_len _ _ _ _) (fun i j hi hj => ?_)
  rw [mixS_length] at hi
  rw [mixS_len] at hj
  rw [mixS_ent hi hj]; simp
theorem mixS_all {T : List (List Int)} {L : List (Nat × Nat)} (h : L.Perm (allB T)) : mixS T L L.length = std T := by
  refine getD_ext (by rw [mixS_length, std_length]) (fun i _ => by rw [mixS_len, std_len]) (fun i j hi hj => ?_)
  rw [mixS_length] at hi
  rw [mixS_len] at hj
  rw [mixS_ent hi hj, std_ent hi hj, List.take_length, if_pos (h.mem_iff.2 (mem_allB.2 ⟨hi, hj⟩))]
theorem set2_len {T : List (List Int)} {i j : Nat} {x : Int} (k : Nat) : len (T.set i ((T.getD i []).set j x)) k = len T k := by
  unfold len
  by_cases h : i = k
  · subst h
    by_cases hl : i < T.length
    · rw [List.getD_eq_getElem?_getD, List.getElem?_set_self hl]; simp
    · rw [List.set_eq_of_length_le (by omega)]
  · rw [List.getD_eq_getElem?_getD, List.getElem?_set_ne h, ← List.getD_eq_getElem?_getD]
theorem set2_ent {T : List (List Int)} {i j : Nat} {x : Int} {a b : Nat} (hi : i < T.length) (hj : j < len T i) : ent (T.set i ((T.getD i []).set j x)) a b = if (a, b) = (i, j) then x else ent T a b := by
  unfold ent
  by_cases h : i = a
  · subst h
    rw [List.getD_eq_getElem?_getD (l := T.set i _), List.getElem?_set_self hi]
    show ((T.getD i []).set j x).getD b 0 = _
    by_cases h2 : j = b
    · subst h2
      rw [if_pos rfl, List.getD_eq_getElem?_getD, List.getElem?_set_self hj]; rfl
    · rw [if_neg (by simp; omega), List.getD_eq_getElem?_getD, List.getElem?_set_ne h2, ← List.getD_eq_getElem?_getD]
  · rw [if_neg (by simp; omega), List.getD_eq_getElem?_getD (l := T.set i _), List.getElem?_set_ne h, ← List.getD_eq_getElem?_getD]
theorem mixS_step {T : List (List Int)} {L : List (Nat × Nat)} (hp : L.Perm (allB T)) (hs : L.Pairwise (fun b c => less T b c = true)) {q : Nat} (hq : q < L.length) {i j : Nat} (he : L[q] = (i, j)) :
    i < T.length ∧ j < len T i ∧ (mixS T L q).set i (((mixS T L q).getD i []).set j ((q : Int) + 1)) = mixS T L (q + 1) := by
  have hm : (i, j) ∈ allB T := by rw [← he]; exact hp.mem_iff.1 (List.getElem_mem hq)
  obtain ⟨hi, hj⟩ := mem_allB.1 hm
  simp only at hi hj
  have hr := rank_of_sorted hp hs hq
  rw [he] at hr
  refine ⟨hi, hj, getD_ext (by rw [List.length_set, mixS_length, mixS_length]) (fun k _ => by rw [set2_len, mixS_len, mixS_len]) (fun a b ha hb => ?_)⟩
  rw [List.length_set, mixS_length] at ha
  rw [set2_len, mixS_len] at hb
  rw [set2_ent (by rw [mixS_length]; exact hi) (by rw [mixS_len]; exact hj), mixS_ent ha hb, mixS_ent ha hb, List.take_add_one, List.getElem?_eq_getElem hq, he]
  by_cases h : (a, b) = (i, j)
  · rw [if_pos h, if_pos (by rw [h]; simp), h, hr]
  · rw [if_neg h]
    have : ((a, b) ∈ L.take q ++ (some (i, j)).toList) ↔ (a, b) ∈ L.take q := by simp [h]
    simp only [this]
end Go.Proofs.YtmlmdklheiafpaaDoor.Std1
