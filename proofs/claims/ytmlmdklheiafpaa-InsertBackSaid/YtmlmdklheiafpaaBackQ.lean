/-
  Plain: what pairs in order make comes back as they were.
-/
import Derived.Test.YtmlmdklheiafpaaBackP
namespace Go.Proofs.Ytmlmdklheiafpaa

theorem pop_of_qadd {Q : List (List Int)} {r : Nat} {c : Int} (hr : r ≤ Q.length) (hne : ∀ s ∈ Q, s ≠ []) : popRow (qadd Q r c) r = Q := by
  have hg := qadd_getD (Q := Q) (r := r) (s := r) (c := c) hr
  rw [if_pos rfl] at hg
  unfold popRow
  rw [hg]
  unfold qadd
  by_cases e : r = Q.length
  · have e0 : Q.getD r [] = [] := getD_far (by omega)
    rw [if_pos e, e0, if_pos (by rfl), List.take_append_of_le_length (by omega), List.take_of_length_le (by omega)]
  · have hr2 : r < Q.length := by omega
    have hl : 0 < (Q.getD r []).length := List.length_pos_iff.2 (hne _ (by rw [getD_get hr2]; exact List.getElem_mem _))
    rw [if_neg e, if_neg (by rw [List.length_append, List.length_singleton]; omega), List.set_set, List.dropLast_concat, getD_get hr2, List.set_getElem_self]
/-- Of the first i pairs. -/
structure Bk (m : List (Int × Int)) (i : Nat) : Prop where
  tab : Tab (recQ (wB (m.take i)) (wA (m.take i)) (m.take i).length)
  same : SameSh (insW [] (wB (m.take i))) (recQ (wB (m.take i)) (wA (m.take i)) (m.take i).length)
  und : Und (insW [] (wB (m.take i))) (recQ (wB (m.take i)) (wA (m.take i)) (m.take i).length) (m.take i)
  le : ∀ a x, x ∈ (recQ (wB (m.take i)) (wA (m.take i)) (m.take i).length).getD a [] → 0 < i ∧ x ≤ (m.getD (i - 1) (0, 0)).1
  low : 0 < i → ∀ a, a < (recQ (wB (m.take i)) (wA (m.take i)) (m.take i).length).length → lastOf ((recQ (wB (m.take i)) (wA (m.take i)) (m.take i).length).getD a []) = (m.getD (i - 1) (0, 0)).1 → irow (insW [] (wB (m.take (i - 1)))) (m.getD (i - 1) (0, 0)).2 ≤ a
  flat : (recQ (wB (m.take i)) (wA (m.take i)) (m.take i).length).flatten.Perm (wA (m.take i))
theorem Bk.zero (m : List (Int × Int)) : Bk m 0 := by
  have e : m.take 0 = [] := rfl
  refine ⟨?_, ?_, ?_, fun a x hx => ?_, fun h => by omega, ?_⟩
  · rw [e]; exact trivial
  · rw [e]; exact fun a => rfl
  · rw [e]; exact .nil _
  · rw [e] at hx; simp [wB, wA, recQ] at hx
  · rw [e]; exact .refl _
theorem Bk.step {m : List (Int × Int)} (hs : Sorted m) {i : Nat} (hi : i < m.length) (h : Bk m i) : Bk m (i + 1) := by
  obtain ⟨s, hsd⟩ : ∃ s, s = m.getD i (0, 0) := ⟨_, rfl⟩
  have hM : m.take (i + 1) = m.take i ++ [s] := by rw [hsd, List.take_add_one, List.getElem?_eq_getElem hi, getD_get hi]; rfl
  have hP : insW [] (wB (m.take (i + 1))) = ins1 (insW [] (wB (m.take i))) s.2 := by rw [hM, ins_snoc]
  have hQ : recQ (wB (m.take (i + 1))) (wA (m.take (i + 1))) (m.take (i + 1)).length = qadd (recQ (wB (m.take i)) (wA (m.take i)) (m.take i).length) (irow (insW [] (wB (m.take i))) s.2) s.1 := by
    rw [hM, List.length_append, List.length_singleton, rec_snoc]
  have hPt : Tab (insW [] (wB (m.take i))) := insW_tab _ trivial
  obtain ⟨h1, h2, h3, h4, h5, h6⟩ := h
  obtain ⟨P, hPd⟩ : ∃ P, P = insW [] (wB (m.take i)) := ⟨_, rfl⟩
  obtain ⟨Q, hQd⟩ : ∃ Q, Q = recQ (wB (m.take i)) (wA (m.take i)) (m.take i).length := ⟨_, rfl⟩
  have hi1 : i + 1 - 1 = i := by omega
  have hQe := hQ
  have hPe := hP
  rw [← hPd] at h2 h3 hPt hPe hQe
  rw [← hQd] at h1 h2 h3 h4 h5 h6 hQe
  have hlen := h2.len hPt.ne h1.ne
  obtain ⟨r, hr⟩ : ∃ r, r = irow P s.2 := ⟨_, rfl⟩
  have hrle : r ≤ Q.length := by have := (sh_ins1 P s.2).1; omega
  rw [← hr] at hQe
  -- all of it is no more than the new letter
  have hb : ∀ a x, x ∈ Q.getD a [] → x ≤ s.1 := fun a x hx => by
    obtain ⟨g1, g2⟩ := h4 a x hx
    have := hs i g1 hi
    rw [← hsd] at this
    rcases this with g | g <;> omega
  have hrow : ∀ a, a < Q.length → Q.getD a [] ≠ [] := fun a ha => h1.ne _ (by rw [getD_get ha]; exact List.getElem_mem _)
  have hfirst : ∀ a, a < Q.length → lastOf (Q.getD a []) = s.1 → r ≤ a := fun a ha e => by
    have hm := last_mem (hrow a ha)
    obtain ⟨g1, g2⟩ := h4 a _ hm
    have hlex := hs i g1 hi
    rw [← hsd] at hlex
    have ec : (m.getD (i - 1) (0, 0)).1 = s.1 := by rcases hlex with g | g <;> omega
    have hx : (m.getD (i - 1) (0, 0)).2 ≤ s.2 := by rcases hlex with g | g <;> omega
    have g3 := h5 g1 a ha (by rw [ec]; exact e)
    have hM0 : m.take i = m.take (i - 1) ++ [m.getD (i - 1) (0, 0)] := by
      have : i = i - 1 + 1 := by omega
      conv => lhs; rw [this]
      rw [List.take_add_one, List.getElem?_eq_getElem (by omega), getD_get (by omega)]; rfl
    have hb2 := bump_right (T := insW [] (wB (m.take (i - 1)))) (x := (m.getD (i - 1) (0, 0)).2) (y := s.2) (fun r hr => (insW_tab _ trivial : Tab (insW [] (wB (m.take (i - 1))))).up r hr) hx
    rw [← ins_snoc, ← hM0, ← hPd, ← hr] at hb2
    omega
  have hg := fun a => qadd_getD (Q := Q) (r := r) (s := a) (c := s.1) hrle
  have hsame : SameSh (ins1 P s.2) (qadd Q r s.1) := fun a => by
    rw [ins_len, hg, ← hr]
    by_cases e : a = r
    · rw [if_pos e, if_pos e, List.length_append, e, h2 r]; rfl
    · rw [if_neg e, if_neg e, h2 a]; rfl
  have hPt2 : Tab (ins1 P s.2) := ins1_tab hPt
  have htab : Tab (qadd Q r s.1) := by
    refine tab_of (fun t ht => ⟨qadd_ne h1.ne t ht, ?_⟩) (fun j => ?_)
    · obtain ⟨a, ha, rfl⟩ := List.getElem_of_mem ht
      rw [← getD_get (d := []) ha, hg]
      by_cases e : a = r
      · rw [if_pos e]
        refine List.pairwise_append.2 ⟨h1.upD r, List.pairwise_singleton _ _, fun x hx y hy => ?_⟩
        rw [List.mem_singleton] at hy
        rw [hy]; exact hb r x hx
      · rw [if_neg e]; exact h1.upD a
    · rw [hg, hg]
      have hd := h1.dom j
      by_cases e : j = r
      · rw [if_pos e, if_neg (by omega)]
        rw [e] at hd ⊢
        refine dom_of (fun k b hk => ?_)
        obtain ⟨a, ha, hab⟩ := dom_at hd hk
        exact ⟨a, by rw [List.getElem?_append_left (List.getElem?_eq_some_iff.1 ha).1]; exact ha, hab⟩
      · rw [if_neg e]
        by_cases e2 : j + 1 = r
        · rw [if_pos e2]
          rw [e2] at hd
          refine dom_of (fun k b hk => ?_)
          by_cases c : k < (Q.getD r []).length
          · rw [List.getElem?_append_left c] at hk
            exact dom_at hd hk
          · have hkl := (List.getElem?_eq_some_iff.1 hk).1
            rw [List.length_append, List.length_singleton] at hkl
            have hke : k = (Q.getD r []).length := by omega
            have hbe : b = s.1 := by
              rw [List.getElem?_append_right (by omega), hke, Nat.sub_self] at hk
              simpa using hk.symm
            have hll := dom_len (hPt2.dom j)
            rw [hsame, hsame, hg, hg, if_neg e, if_pos e2, List.length_append, List.length_singleton] at hll
            have hkj : k < (Q.getD j []).length := by omega
            refine ⟨(Q.getD j [])[k], List.getElem?_eq_getElem hkj, ?_⟩
            rw [hbe]
            have hmem := List.getElem_mem hkj
            have hle := last_max (h1.upD j) hmem
            have hjl : j < Q.length := by omega
            have h7 := hb j _ (last_mem (hrow j hjl))
            have h8 : lastOf (Q.getD j []) ≠ s.1 := fun e3 => by have := hfirst j hjl e3; omega
            omega
        · rw [if_neg e2]; exact hd
  have hrl : r < (qadd Q r s.1).length := by
    unfold qadd
    by_cases e : r = Q.length
    · rw [if_pos e]; simp; omega
    · rw [if_neg e, List.length_set]; omega
  have hql : ∀ a, a < (qadd Q r s.1).length → a ≠ r → a < Q.length := fun a ha hn => by
    unfold qadd at ha
    by_cases e : r = Q.length
    · rw [if_pos e] at ha; simp at ha; omega
    · rw [if_neg e, List.length_set] at ha; exact ha
  have hsel : Sel (qadd Q r s.1) r s.1 := by
    refine ⟨hrl, by rw [hg, if_pos rfl, last_snoc], fun a ha => ?_, fun a ha => ?_⟩
    · rw [hg]
      by_cases e : a = r
      · rw [if_pos e, last_snoc]; exact Int.le_refl _
      · rw [if_neg e]; exact hb a _ (last_mem (hrow a (hql a ha e)))
    · rw [hg, if_neg (by omega)]
      have hal : a < Q.length := by omega
      have h7 := hb a _ (last_mem (hrow a hal))
      have h8 : lastOf (Q.getD a []) ≠ s.1 := fun e3 => by have := hfirst a hal e3; omega
      omega
  refine ⟨by rw [hQe]; exact htab, by rw [hQe, hPe]; exact hsame, ?_, fun a x hx => ⟨by omega, ?_⟩, fun _ a ha e => ?_, ?_⟩
  · rw [hQe, hPe, hM]
    have hub := unb_ins1 (x := s.2) hPt
    rw [← hr] at hub
    have hst := Und.step (p := ins1 P s.2) (m := m.take i) hsel (by rw [hub, pop_of_qadd hrle h1.ne]; exact h3)
    rw [hub] at hst
    exact hst
  · rw [hi1, ← hsd]
    rw [hQe, hg] at hx
    by_cases e : a = r
    · rw [if_pos e] at hx
      rcases List.mem_append.1 hx with g | g
      · exact hb r x g
      · rw [List.mem_singleton] at g; omega
    · rw [if_neg e] at hx; exact hb a x hx
  · rw [hi1, ← hsd] at e ⊢
    rw [hQe] at ha e
    rw [← hPd, ← hr]
    rw [hg] at e
    by_cases e2 : a = r
    · omega
    · rw [if_neg e2] at e
      exact hfirst a (hql a ha e2) e
  · rw [hQe, hM]
    have e1 : wA (m.take i ++ [s]) = wA (m.take i) ++ [s.1] := by simp [wA]
    rw [e1]
    have h7 : (qadd Q r s.1).flatten.Perm (s.1 :: Q.flatten) := by
      unfold qadd
      by_cases e : r = Q.length
      · rw [if_pos e, List.flatten_append]
        show (Q.flatten ++ ([s.1] ++ [])).Perm _
        exact List.perm_append_comm
      · rw [if_neg e]; exact set_flat s.1 (by omega)
    exact h7.trans ((List.Perm.cons _ h6).trans (List.perm_append_singleton _ _).symm)
/-- Pairs in order go in, and come out again. -/
theorem made_back {m : List (Int × Int)} (hs : Sorted m) : Tab (recQ (wB m) (wA m) m.length) ∧ SameSh (insW [] (wB m)) (recQ (wB m) (wA m) m.length) ∧ Und (insW [] (wB m)) (recQ (wB m) (wA m) m.length) m ∧ (recQ (wB m) (wA m) m.length).flatten.Perm (wA m) := by
  have key : ∀ i, i ≤ m.length → Bk m i := fun i => by
    induction i with
    | zero => exact fun _ => Bk.zero m
    | succ i ih => exact fun h => (ih (by omega)).step hs (by omega)
  have h := key m.length (Nat.le_refl _)
  have e : m.take m.length = m := List.take_length
  obtain ⟨h1, h2, h3, _, _, h6⟩ := h
  rw [e] at h1 h2 h3 h6
  exact ⟨h1, h2, h3, h6⟩
/-- A word, with its places. -/
def wm (w : List Int) : List (Int × Int) := (List.range w.length).map (fun (i : Nat) => ((i : Int) + 1, w.getD i 0))
theorem wm_len (w : List Int) : (wm w).length = w.length := by simp [wm]
theorem wm_get {w : List Int} {i : Nat} (h : i < w.length) : (wm w).getD i (0, 0) = ((i : Int) + 1, w.getD i 0) := by
  rw [getD_get (by rw [wm_len]; exact h)]; simp [wm]
theorem wm_sorted (w : List Int) : Sorted (wm w) := fun i h0 hi => by
  rw [wm_len] at hi
  rw [wm_get hi, wm_get (by omega)]
  left
  show ((i - 1 : Nat) : Int) + 1 < (i : Int) + 1
  omega
theorem wm_B (w : List Int) : wB (wm w) = w := by
  unfold wB wm
  rw [List.map_map]
  apply List.ext_getElem (by simp)
  intro i h1 h2
  simp [h2]
theorem wm_A (w : List Int) : wA (wm w) = upN w.length := by
  unfold wA wm
  rw [List.map_map]
  apply List.ext_getElem (by simp [upN, upTil])
  intro i h1 h2
  have h3 : i < w.length := by simpa [upN, upTil] using h2
  simp [upN, upTil, h3]
theorem fill_rec {m : List (Int × Int)} (hs : Sorted m) (hl : m.length ≤ 40) (hA : ∀ x ∈ wA m, Lt x) (hB : ∀ x ∈ wB m, Lt x) : FillOk (insW [] (wB m)) ∧ FillOk (recQ (wB m) (wA m) m.length) := by
  obtain ⟨h1, h2, h3, h4⟩ := made_back hs
  refine ⟨(fill_word (by simp [wB]; exact hl) hB).1, h1, fun r hr x hx => hA x (h4.mem_iff.1 (List.mem_flatten.2 ⟨r, hr, hx⟩)), ?_⟩
  have := h4.length_eq
  rw [← flatten_len, this]; simp [wA]; exact hl
end Go.Proofs.Ytmlmdklheiafpaa
