/-
  Plain: what fill.Content counts; slides in an order that a standard tableau tells.
-/
import Derived.Test.YtmlmdklheiafpaaPlacX
import Derived.Test.YtmlmdklheiafpaaRoundsP
import Derived.Test.YtmlmdklheiafpaaBruhatM
namespace Go.Proofs.Ytmlmdklheiafpaa

/-- How often each letter stands in xs. -/
structure Cnt (xs l : List Int) : Prop where
  at_ : ∀ k, k < l.length → l.getD k 0 = (xs.count ((k : Int) + 1) : Int)
  up : ∀ x ∈ xs, x ≤ (l.length : Int)
theorem Cnt.nil : Cnt [] [] := ⟨fun k hk => by simp at hk, fun x hx => by simp at hx⟩
theorem Cnt.zero {xs l : List Int} (h : Cnt xs l) : Cnt xs (l ++ [0]) := by
  refine ⟨fun k hk => ?_, fun x hx => by have := h.up x hx; simp; omega⟩
  by_cases e : k < l.length
  · rw [List.getD_eq_getElem?_getD, List.getElem?_append_left e, ← List.getD_eq_getElem?_getD]; exact h.at_ k e
  · have hk2 : k = l.length := by simp at hk; omega
    subst hk2
    rw [List.getD_eq_getElem?_getD, List.getElem?_append_right (Nat.le_refl _)]
    have : xs.count ((l.length : Int) + 1) = 0 := List.count_eq_zero.2 (fun hm => by have := h.up _ hm; omega)
    rw [this]; simp
theorem Cnt.add {xs l : List Int} {n : Nat} (h : Cnt xs l) (h2 : n < l.length) : Cnt (xs ++ [(n : Int) + 1]) (l.set n (l.getD n 0 + 1)) := by
  refine ⟨fun k hk => ?_, fun x hx => ?_⟩
  · rw [List.length_set] at hk
    rw [List.count_append]
    by_cases e : n = k
    · subst e
      rw [List.getD_eq_getElem?_getD, List.getElem?_set_self hk, h.at_ n hk]; simp
    · rw [List.getD_eq_getElem?_getD, List.getElem?_set_ne e, ← List.getD_eq_getElem?_getD, h.at_ k hk]
      have : List.count ((k : Int) + 1) [(n : Int) + 1] = 0 := List.count_eq_zero.2 (fun hm => by simp at hm; omega)
      rw [this]; simp
  · rw [List.length_set]
    rcases List.mem_append.1 hx with e | e
    · exact h.up x e
    · simp at e; rw [e]; omega
theorem Cnt.perm {xs l : List Int} (h : Cnt xs l) (h1 : ∀ x ∈ xs, 1 ≤ x) (ht : l.length = 0 ∨ (l.length : Int) ∈ xs) : IsPerm xs ↔ ∀ k, k < l.length → l.getD k 0 = 1 := by
  refine ⟨fun hp k hk => ?_, fun hall => ?_⟩
  · rw [h.at_ k hk]
    have h2 : (l.length : Int) ≤ xs.length := by
      rcases ht with e | e
      · omega
      · exact (hp.2 _ e).2
    have h3 := hp.mem (x := (k : Int) + 1) (by omega) (by omega)
    have h4 := List.nodup_iff_count.1 hp.1 ((k : Int) + 1)
    have h5 := List.count_pos_iff.2 h3
    omega
  · have hc : ∀ x : Int, 1 ≤ x → x ≤ (l.length : Int) → xs.count x = 1 := fun x hx1 hx2 => by
      have h2 := hall (x - 1).toNat (by omega)
      rw [h.at_ _ (by omega), show (((x - 1).toNat : Nat) : Int) + 1 = x by omega] at h2
      omega
    have hnd : xs.Nodup := List.nodup_iff_count.2 (fun x => by
      by_cases hx : x ∈ xs
      · rw [hc x (h1 x hx) (h.up x hx)]; exact Nat.le_refl _
      · rw [List.count_eq_zero.2 hx]; exact Nat.zero_le _)
    have hl := IsPerm.length_of (n := l.length) hnd (fun x hx => ⟨h1 x hx, h.up x hx⟩) (fun x hx1 hx2 => List.count_pos_iff.1 (by rw [hc x hx1 hx2]; omega))
    exact ⟨hnd, fun x hx => ⟨h1 x hx, by rw [hl]; exact h.up x hx⟩⟩
/-- A standard tableau. -/
def Std (T : List (List Int)) : Prop := FillOk T ∧ IsPerm T.flatten
theorem flatten_len (T : List (List Int)) : T.flatten.length = boxes T := by
  unfold boxes; rw [List.length_flatten]
theorem mem_row {T : List (List Int)} {i : Nat} {x : Int} (h : x ∈ T.getD i []) : x ∈ T.flatten := by
  have hi : i < T.length := by
    apply Classical.byContradiction
    intro hn
    rw [getD_far (by omega)] at h
    simp at h
  exact List.mem_flatten.2 ⟨T.getD i [], by rw [getD_get hi]; exact List.getElem_mem hi, h⟩
theorem cell_mem {T : List (List Int)} {i j : Nat} (h : j < rl T i) : cell T i j ∈ T.getD i [] := by
  unfold cell; unfold rl at h; rw [getD_get h]; exact List.getElem_mem h
theorem Std.inj {T : List (List Int)} (h : Std T) {i j a b : Nat} (h1 : j < rl T i) (h2 : b < rl T a) (e : cell T i j = cell T a b) : a = i ∧ b = j := by
  have hnd := List.pairwise_flatten.1 h.2.1
  have hi := rl_in h1
  have ha := rl_in h2
  have m1 := cell_mem h1
  have m2 := cell_mem h2
  have hai : a = i := by
    apply Classical.byContradiction
    intro hn
    have hp := List.pairwise_iff_getElem.1 hnd.2
    rw [e] at m1
    rw [getD_get hi] at m1
    rw [getD_get ha] at m2
    rcases Nat.lt_or_ge a i with hlt | hge
    · exact hp a i ha hi hlt _ m2 _ m1 rfl
    · exact hp i a hi ha (by omega) _ m1 _ m2 rfl
  subst hai
  refine ⟨rfl, ?_⟩
  have hr := hnd.1 (T.getD a []) (by rw [getD_get hi]; exact List.getElem_mem hi)
  unfold rl at h1 h2
  unfold cell at e
  rw [getD_get h1, getD_get h2] at e
  exact (nodup_get hr h1 h2 e).symm
theorem FillOk.skOk {T : List (List Int)} (h : FillOk T) : SkOk T ∧ ∀ i j, j < rl T i → 1 ≤ cell T i j := by
  have h1 : ∀ i j, j < rl T i → 1 ≤ cell T i j := fun i j hj => ((h.row (rl_in hj)).2.2 j hj).1.1
  have hh : ∀ i, hol (T.getD i []) = 0 := fun i => by
    apply Classical.byContradiction
    intro hn
    have h2 := hol_le (T.getD i [])
    have h3 := h1 i 0 (by unfold rl; omega)
    have h4 := hol_zero (r := T.getD i []) (k := 0) (by omega)
    unfold cell at h3
    omega
  refine ⟨⟨fun i hi => ?_, h.2.2⟩, h1⟩
  have hr := h.row hi
  exact ⟨hr.1, fun h0 => ⟨hr.2.1 h0, by rw [hh, hh]; exact Nat.le_refl _⟩, fun j hj _ => hr.2.2 j hj⟩
/-- The holes that are left when the letters above n have been slid into. -/
structure Left (T O t : List (List Int)) (n : Nat) : Prop where
  ok : SkOk t
  kn : Kn (sword T) (sword t)
  zs : ∀ a b, Zero t a b ↔ (b < rl O a ∧ cell O a b ≤ n)
theorem Left.step {T O t : List (List Int)} {n i j : Nat} (h : Left T O t (n + 1)) (hO : Std O) (hj : j < rl O i) (he : cell O i j = ((n + 1 : Nat) : Int)) : Cfg t i j ∧ ∀ out i' j', Slid t i j out i' j' → Left T O out n := by
  obtain ⟨hsk, hpos⟩ := hO.1.skOk
  have hk := hsk.sk.1
  have hz := (h.zs i j).2 ⟨hj, by omega⟩
  have hr : ∀ k, j < k → k < rl t i → 0 < cell t i k := fun k h1 h2 => by
    have h3 := h.ok.sk.1.nn i k h2
    have h4 : ¬ cell t i k = 0 := fun e => by
      obtain ⟨h5, h6⟩ := (h.zs i k).1 ⟨h2, e⟩
      have h7 := hk.row i j k h1 h5
      have h8 := hO.inj hj h5 (by omega)
      omega
    omega
  have hd : ∀ i', i < i' → j < rl t i' → 0 < cell t i' j := fun i' h1 h2 => by
    have h3 := h.ok.sk.1.nn i' j h2
    have h4 : ¬ cell t i' j = 0 := fun e => by
      obtain ⟨h5, h6⟩ := (h.zs i' j).1 ⟨h2, e⟩
      rcases hk.col i i' j h1 h5 with h7 | h7
      · omega
      · have := hpos i' j h5; omega
    omega
  refine ⟨(Cfg.start h.ok.sk.1 hz.1 hz.2 hr hd).1, fun out i' j' hs => ?_⟩
  obtain ⟨p1, p2, p3, p4⟩ := h.ok.slide hz.1 hz.2 hr hd hs
  refine ⟨p1, h.kn.trans p2, fun a b => ?_⟩
  rw [p3, h.zs]
  refine ⟨fun hh => ⟨hh.1.1, ?_⟩, fun hh => ⟨⟨hh.1, by omega⟩, fun e => ?_⟩⟩
  · have h1 : ¬ cell O a b = ((n + 1 : Nat) : Int) := fun e => hh.2 (hO.inj hj hh.1.1 (by omega))
    have := hh.1.2
    omega
  · have := hh.2
    rw [e.1, e.2] at this
    omega
theorem Left.done {T O t : List (List Int)} (h : Left T O t 0) (hO : Std O) : ∀ i j, ¬ Zero t i j := fun i j hz => by
  obtain ⟨h1, h2⟩ := (h.zs i j).1 hz
  have := hO.1.skOk.2 i j h1
  omega
theorem filter_down : ∀ {hs : List Nat}, hs.Pairwise (fun a b => b ≤ a) → ∀ a, (hs.filter (fun x => decide (0 < x))).getD a 0 = hs.getD a 0
  | [], _, a => rfl
  | h :: t, hp, a => by
    obtain ⟨h1, h2⟩ := List.pairwise_cons.1 hp
    rw [List.filter_cons]
    by_cases h0 : 0 < h
    · rw [if_pos (decide_eq_true h0)]
      cases a with
      | zero => rfl
      | succ a => simpa using filter_down h2 a
    · rw [if_neg (by simpa using h0)]
      have hall : ∀ x ∈ t, x = 0 := fun x hx => by have := h1 x hx; omega
      have hf : t.filter (fun x => decide (0 < x)) = [] := List.filter_eq_nil_iff.2 (fun x hx => by simp [hall x hx])
      rw [hf]
      cases a with
      | zero => simp; omega
      | succ a =>
        by_cases ha : a < t.length
        · have : t[a] = 0 := hall _ (List.getElem_mem ha)
          simp [ha, this]
        · have h9 : (h :: t).getD (a + 1) 0 = 0 := getD_far (by simp; omega)
          rw [h9]; rfl
theorem Left.start {T O : List (List Int)} (h : SkOk T) (hO : Std O) (e : O.map List.length = (T.map hol).filter (fun x => decide (0 < x))) : Left T O T (boxes O) := by
  have hp : (T.map hol).Pairwise (fun a b => b ≤ a) := by
    rw [List.pairwise_iff_getElem]
    intro i j hi hj hij
    rw [List.getElem_map, List.getElem_map]
    rw [List.length_map] at hi hj
    have : ∀ d, i + d < T.length → hol (T.getD (i + d) []) ≤ hol (T.getD i []) := fun d => by
      induction d with
      | zero => intro _; exact Nat.le_refl _
      | succ d ih =>
        intro hd
        have h1 := ih (by omega)
        have h2 := ((h.1 (i + d + 1) (by omega)).2.1 (by omega)).2
        rw [Nat.add_sub_cancel] at h2
        exact Nat.le_trans h2 h1
    have h1 := this (j - i) (by omega)
    rw [show i + (j - i) = j by omega, getD_get hi, getD_get hj] at h1
    exact h1
  have hr : ∀ a, rl O a = hol (T.getD a []) := fun a => by
    have h1 := filter_down hp a
    rw [← e] at h1
    have h2 : (O.map List.length).getD a 0 = rl O a := by
      unfold rl
      by_cases ha : a < O.length
      · rw [getD_get ha, getD_get (by simpa using ha), List.getElem_map]
      · rw [getD_far (by simpa using ha), getD_far (by omega)]; rfl
    have h3 : (T.map hol).getD a 0 = hol (T.getD a []) := by
      by_cases ha : a < T.length
      · rw [getD_get ha, getD_get (by simpa using ha), List.getElem_map]
      · rw [getD_far (by simpa using ha), getD_far (by omega)]; rfl
    omega
  refine ⟨h, .refl _, fun a b => ?_⟩
  have hle := hol_le (T.getD a [])
  refine ⟨fun hz => ?_, fun hh => ?_⟩
  · have h1 := (h.sk.1.zhol a hz.1).1 hz.2
    have h2 : b < rl O a := by rw [hr]; exact h1
    refine ⟨h2, ?_⟩
    have := (hO.2.2 _ (mem_row (cell_mem h2))).2
    rw [flatten_len] at this
    exact this
  · have h1 := hh.1
    rw [hr] at h1
    exact ⟨by unfold rl; omega, hol_zero h1⟩
end Go.Proofs.Ytmlmdklheiafpaa
