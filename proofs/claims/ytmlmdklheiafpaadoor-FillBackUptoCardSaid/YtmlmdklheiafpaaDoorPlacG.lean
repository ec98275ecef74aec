/-
  Plain: GREENE's bound: letters of a word in so many subsequences; kept by KNUTH's steps.
-/
import Derived.Test.YtmlmdklheiafpaaDoorPlacF
namespace Go.Proofs.YtmlmdklheiafpaaDoor

/-- The letters of one colour. -/
def cls (L : List (Int × Nat)) (t : Nat) : List Int := (L.filter (fun p => decide (p.2 = t))).map (·.1)
theorem cls_append (L M : List (Int × Nat)) (t : Nat) : cls (L ++ M) t = cls L t ++ cls M t := by simp [cls]
theorem cls_nil (t : Nat) : cls [] t = [] := rfl
theorem cls_cons (p : Int × Nat) (L : List (Int × Nat)) (t : Nat) : cls (p :: L) t = if p.2 = t then p.1 :: cls L t else cls L t := by
  unfold cls
  by_cases h : p.2 = t
  · rw [List.filter_cons_of_pos (by simpa using h), if_pos h]; rfl
  · rw [List.filter_cons_of_neg (by simpa using h), if_neg h]
/-- How many letters are coloured. -/
def ncol (L : List (Int × Nat)) : Nat := L.countP (fun p => decide (p.2 ≠ 0))
theorem ncol_append (L M : List (Int × Nat)) : ncol (L ++ M) = ncol L + ncol M := by simp [ncol]
theorem ncol_cons (p : Int × Nat) (L : List (Int × Nat)) : ncol (p :: L) = ncol L + if p.2 = 0 then 0 else 1 := by
  unfold ncol
  by_cases h : p.2 = 0
  · rw [List.countP_cons_of_neg (by simpa using h), if_pos h]; rfl
  · rw [List.countP_cons_of_pos (by simpa using h), if_neg h]
/-- Letters of a word in k subsequences, n together. -/
def Can (R : Int → Int → Prop) (k : Nat) (w : List Int) (n : Nat) : Prop := ∃ L : List (Int × Nat), L.map (·.1) = w ∧ (∀ t, 0 < t → (cls L t).Pairwise R) ∧ (∀ p ∈ L, p.2 ≤ k) ∧ ncol L = n
theorem pw3 {R : Int → Int → Prop} (ht : ∀ a b c, R a b → R b c → R a c) {A B : List Int} {p r : Int} : (A ++ p :: r :: B).Pairwise R ↔ A.Pairwise R ∧ B.Pairwise R ∧ R p r ∧ (∀ a ∈ A, R a p) ∧ ∀ b ∈ B, R r b := by
  rw [List.pairwise_append, List.pairwise_cons, List.pairwise_cons]
  constructor
  · rintro ⟨h1, ⟨h2, h3, h4⟩, h5⟩
    exact ⟨h1, h4, h2 r (by simp), fun a ha => h5 a ha p (by simp), fun b hb => h3 b hb⟩
  · rintro ⟨h1, h2, h3, h4, h5⟩
    refine ⟨h1, ⟨fun x hx => ?_, fun x hx => h5 x hx, h2⟩, fun a ha b hb => ?_⟩
    · rcases List.mem_cons.1 hx with e | e
      · rw [e]; exact h3
      · exact ht _ _ _ h3 (h5 x e)
    · rcases List.mem_cons.1 hb with e | e
      · rw [e]; exact h4 a ha
      · rcases List.mem_cons.1 e with e | e
        · rw [e]; exact ht _ _ _ (h4 a ha) h3
        · exact ht _ _ _ (h4 a ha) (ht _ _ _ h3 (h5 b e))
theorem pw2 {R : Int → Int → Prop} (ht : ∀ a b c, R a b → R b c → R a c) {A B : List Int} {p : Int} : (A ++ p :: B).Pairwise R ↔ A.Pairwise R ∧ B.Pairwise R ∧ (∀ a ∈ A, R a p) ∧ ∀ b ∈ B, R p b := by
  rw [List.pairwise_append, List.pairwise_cons]
  constructor
  · rintro ⟨h1, ⟨h2, h3⟩, h4⟩
    exact ⟨h1, h3, fun a ha => h4 a ha p (by simp), h2⟩
  · rintro ⟨h1, h2, h3, h4⟩
    refine ⟨h1, ⟨h4, h2⟩, fun a ha b hb => ?_⟩
    rcases List.mem_cons.1 hb with e | e
    · rw [e]; exact h3 a ha
    · exact ht _ _ _ (h3 a ha) (h4 b e)
/-- Two colours change places. -/
def swc (c e : Nat) (L : List (Int × Nat)) : List (Int × Nat) := L.map (fun p => (p.1, if p.2 = c then e else if p.2 = e then c else p.2))
theorem swc_key (c e q t : Nat) : ((if q = c then e else if q = e then c else q) = t) ↔ (q = (if t = c then e else if t = e then c else t)) := by
  by_cases h1 : q = c
  · rw [if_pos h1]
    by_cases h2 : t = c
    · rw [if_pos h2]; omega
    · rw [if_neg h2]
      by_cases h3 : t = e
      · rw [if_pos h3]; omega
      · rw [if_neg h3]; omega
  · rw [if_neg h1]
    by_cases h1' : q = e
    · rw [if_pos h1']
      by_cases h2 : t = c
      · rw [if_pos h2]; omega
      · rw [if_neg h2]
        by_cases h3 : t = e
        · rw [if_pos h3]; omega
        · rw [if_neg h3]; omega
    · rw [if_neg h1']
      by_cases h2 : t = c
      · rw [if_pos h2]; omega
      · rw [if_neg h2]
        by_cases h3 : t = e
        · rw [if_pos h3]; omega
        · rw [if_neg h3]
theorem swc_cls {c e : Nat} (L : List (Int × Nat)) (t : Nat) : cls (swc c e L) t = cls L (if t = c then e else if t = e then c else t) := by
  induction L with
  | nil => rfl
  | cons p L ih =>
    have : swc c e (p :: L) = (p.1, if p.2 = c then e else if p.2 = e then c else p.2) :: swc c e L := rfl
    rw [this, cls_cons, cls_cons, ih]
    by_cases h : p.2 = (if t = c then e else if t = e then c else t)
    · rw [if_pos h, if_pos ((swc_key c e p.2 t).2 h)]
    · rw [if_neg h, if_neg (fun h' => h ((swc_key c e p.2 t).1 h'))]
theorem swc_letters (c e : Nat) (L : List (Int × Nat)) : (swc c e L).map (·.1) = L.map (·.1) := by simp [swc]
theorem swc_ncol {c e : Nat} (hc : c ≠ 0) (he : e ≠ 0) (L : List (Int × Nat)) : ncol (swc c e L) = ncol L := by
  induction L with
  | nil => rfl
  | cons p L ih =>
    have : swc c e (p :: L) = (p.1, if p.2 = c then e else if p.2 = e then c else p.2) :: swc c e L := rfl
    rw [this, ncol_cons, ncol_cons, ih]
    congr 1
    show (if (if p.2 = c then e else if p.2 = e then c else p.2) = 0 then 0 else 1) = _
    by_cases h1 : p.2 = c
    · rw [if_pos h1, if_neg he, if_neg (by omega)]
    · rw [if_neg h1]
      by_cases h2 : p.2 = e
      · rw [if_pos h2, if_neg hc, if_neg (by omega)]
      · rw [if_neg h2]
theorem swc_le {c e k : Nat} (hc : c ≤ k) (he : e ≤ k) {L : List (Int × Nat)} (h : ∀ p ∈ L, p.2 ≤ k) : ∀ p ∈ swc c e L, p.2 ≤ k := fun p hp => by
  obtain ⟨q, hq, rfl⟩ := List.mem_map.1 hp
  have := h q hq
  show (if q.2 = c then e else if q.2 = e then c else q.2) ≤ k
  split
  · exact he
  · split
    · exact hc
    · exact this
theorem split3 {L : List (Int × Nat)} {u v : List Int} {p q r : Int} (h : L.map (·.1) = u ++ [p, q, r] ++ v) : ∃ U V a b c, L = U ++ (p, a) :: (q, b) :: (r, c) :: V ∧ U.map (·.1) = u ∧ V.map (·.1) = v := by
  rw [List.append_assoc] at h
  obtain ⟨U, W, rfl, hU, hW⟩ := List.map_eq_append_iff.1 h
  cases W with
  | nil => simp at hW
  | cons x W =>
    cases W with
    | nil => simp at hW
    | cons y W =>
      cases W with
      | nil => simp at hW
      | cons z W =>
        simp at hW
        obtain ⟨h1, h2, h3, h4⟩ := hW
        exact ⟨U, W, x.2, y.2, z.2, by rw [← h1, ← h2, ← h3], hU, h4⟩
/-- What a word and its step have alike where the first two change places. -/
theorem canG2 {R : Int → Int → Prop} (ht : ∀ a b c, R a b → R b c → R a c) {k n : Nat} {u v : List Int} {p q r : Int} (h : Can R k (u ++ [p, q, r] ++ v) n)
    (hc : R p q → R p r ∧ (∀ a, R a r → R a q) ∧ (∀ b, R q b → R r b) ∧ ¬ R q r) : Can R k (u ++ [q, p, r] ++ v) n := by
  obtain ⟨L, h1, h2, h3, h4⟩ := h
  obtain ⟨U, V, a, b, c, rfl, rfl, rfl⟩ := split3 h1
  have hb : ∀ x ∈ U ++ V, x.2 ≤ k := fun x hx => h3 x (by simp at hx ⊢; rcases hx with e | e <;> simp [e])
  have ha1 : a ≤ k := h3 (p, a) (by simp)
  have hb1 : b ≤ k := h3 (q, b) (by simp)
  have hc1 : c ≤ k := h3 (r, c) (by simp)
  by_cases hab : a = b ∧ a ≠ 0
  · obtain ⟨rfl, ha0⟩ := hab
    have e1 := h2 a (by omega)
    simp only [cls_append, cls_cons, if_true] at e1
    by_cases hca : c = a
    · exfalso
      rw [if_pos hca] at e1
      have := (List.pairwise_append.1 e1).2.1
      have h5 := List.pairwise_cons.1 this
      have h6 := List.pairwise_cons.1 h5.2
      exact (hc (h5.1 q (by simp))).2.2.2 (h6.1 r (by simp))
    · rw [if_neg hca] at e1
      obtain ⟨x1, x2, x3, x4, x5⟩ := (pw3 ht).1 e1
      obtain ⟨y1, y2, y3, _⟩ := hc x3
      by_cases hc0 : c = 0
      · subst hc0
        refine ⟨U ++ (q, 0) :: (p, a) :: (r, a) :: V, by simp, fun t ht0 => ?_, fun x hx => ?_, ?_⟩
        · by_cases hta : a = t
          · subst hta
            simp only [cls_append, cls_cons, if_true]
            rw [if_neg (by omega)]
            exact (pw3 ht).2 ⟨x1, x2, y1, x4, fun b hb => y3 b (x5 b hb)⟩
          · have := h2 t ht0
            simp only [cls_append, cls_cons, if_neg hta, if_neg (show ¬ 0 = t by omega)] at this ⊢
            exact this
        · have hx2 : x ∈ U ++ V ∨ x = (q, 0) ∨ x = (p, a) ∨ x = (r, a) := by
            simp at hx ⊢
            rcases hx with e | e | e | e | e <;> simp [e]
          rcases hx2 with e | e | e | e
          · exact hb x e
          · rw [e]; exact Nat.zero_le _
          · rw [e]; exact ha1
          · rw [e]; exact ha1
        · rw [← h4]; simp only [ncol_append, ncol_cons, if_true, if_neg ha0] <;> omega
      · have e2 := h2 c (by omega)
        simp only [cls_append, cls_cons, if_true, if_neg (fun e => hca (Eq.symm e) : ¬ a = c)] at e2
        obtain ⟨z1, z2, z3, z4⟩ := (pw2 ht).1 e2
        refine ⟨U ++ (q, c) :: (p, a) :: (r, a) :: swc a c V, by simp [swc_letters], fun t ht0 => ?_, fun x hx => ?_, ?_⟩
        · by_cases hta : a = t
          · subst hta
            simp only [cls_append, cls_cons, if_true, if_neg hca, swc_cls]
            exact (pw3 ht).2 ⟨x1, z2, y1, x4, z4⟩
          · by_cases htc : c = t
            · subst htc
              simp only [cls_append, cls_cons, if_true, if_neg hta, swc_cls]
              rw [if_neg hca]
              exact (pw2 ht).2 ⟨z1, x2, fun a ha => y2 a (z3 a ha), x5⟩
            · have := h2 t ht0
              simp only [cls_append, cls_cons, if_neg hta, if_neg htc, swc_cls] at this ⊢
              rw [if_neg (fun e => hta e.symm), if_neg (fun e => htc e.symm)]
              exact this
        · have hx2 : x ∈ U ∨ x = (q, c) ∨ x = (p, a) ∨ x = (r, a) ∨ x ∈ swc a c V := by
            simp at hx ⊢
            rcases hx with e | e | e | e | e <;> simp [e]
          rcases hx2 with e | e | e | e | e
          · exact hb x (List.mem_append_left _ e)
          · rw [e]; exact hc1
          · rw [e]; exact ha1
          · rw [e]; exact ha1
          · exact swc_le ha1 hc1 (fun y hy => hb y (List.mem_append_right _ hy)) x e
        · rw [← h4]; simp only [ncol_append, ncol_cons, if_neg ha0, if_neg hc0, swc_ncol ha0 hc0]
  · refine ⟨U ++ (q, b) :: (p, a) :: (r, c) :: V, by simp, fun t ht0 => ?_, fun x hx => ?_, ?_⟩
    · have := h2 t ht0
      simp only [cls_append, cls_cons] at this ⊢
      by_cases h5 : a = t
      · by_cases h6 : b = t
        · exact absurd ⟨by omega, by omega⟩ hab
        · rw [if_neg h6, if_pos h5]; rw [if_pos h5, if_neg h6] at this; exact this
      · rw [if_neg h5]; rw [if_neg h5] at this; exact this
    · apply h3
      simp at hx ⊢
      rcases hx with e | e | e | e | e <;> simp [e]
    · rw [← h4]; simp only [ncol_append, ncol_cons]; omega
/-- What a word and its step have alike where the last two change places. -/
theorem canG3 {R : Int → Int → Prop} (ht : ∀ a b c, R a b → R b c → R a c) {k n : Nat} {u v : List Int} {p q r : Int} (h : Can R k (u ++ [r, p, q] ++ v) n)
    (hc : R p q → R r q ∧ (∀ b, R r b → R p b) ∧ (∀ a, R a p → R a r) ∧ ¬ R r p) : Can R k (u ++ [r, q, p] ++ v) n := by
  obtain ⟨L, h1, h2, h3, h4⟩ := h
  obtain ⟨U, V, c, a, b, rfl, rfl, rfl⟩ := split3 h1
  have hb : ∀ x ∈ U ++ V, x.2 ≤ k := fun x hx => h3 x (by simp at hx ⊢; rcases hx with e | e <;> simp [e])
  have ha1 : a ≤ k := h3 (p, a) (by simp)
  have hc1 : c ≤ k := h3 (r, c) (by simp)
  by_cases hab : a = b ∧ a ≠ 0
  · obtain ⟨rfl, ha0⟩ := hab
    have e1 := h2 a (by omega)
    simp only [cls_append, cls_cons, if_true] at e1
    by_cases hca : c = a
    · exfalso
      rw [if_pos hca] at e1
      have := (List.pairwise_append.1 e1).2.1
      have h5 := List.pairwise_cons.1 this
      have h6 := List.pairwise_cons.1 h5.2
      exact (hc (h6.1 q (by simp))).2.2.2 (h5.1 p (by simp))
    · rw [if_neg hca] at e1
      obtain ⟨x1, x2, x3, x4, x5⟩ := (pw3 ht).1 e1
      obtain ⟨y1, y2, y3, _⟩ := hc x3
      by_cases hc0 : c = 0
      · subst hc0
        refine ⟨U ++ (r, a) :: (q, a) :: (p, 0) :: V, by simp, fun t ht0 => ?_, fun x hx => ?_, ?_⟩
        · by_cases hta : a = t
          · subst hta
            simp only [cls_append, cls_cons, if_true]
            rw [if_neg (by omega)]
            exact (pw3 ht).2 ⟨x1, x2, y1, fun z hz => y3 z (x4 z hz), x5⟩
          · have := h2 t ht0
            simp only [cls_append, cls_cons, if_neg hta, if_neg (show ¬ 0 = t by omega)] at this ⊢
            exact this
        · have hx2 : x ∈ U ++ V ∨ x = (r, a) ∨ x = (q, a) ∨ x = (p, 0) := by
            simp at hx ⊢
            rcases hx with e | e | e | e | e <;> simp [e]
          rcases hx2 with e | e | e | e
          · exact hb x e
          · rw [e]; exact ha1
          · rw [e]; exact ha1
          · rw [e]; exact Nat.zero_le _
        · rw [← h4]; simp only [ncol_append, ncol_cons, if_true, if_neg ha0] <;> omega
      · have e2 := h2 c (by omega)
        simp only [cls_append, cls_cons, if_true, if_neg (fun e => hca (Eq.symm e) : ¬ a = c)] at e2
        obtain ⟨z1, z2, z3, z4⟩ := (pw2 ht).1 e2
        refine ⟨U ++ (r, c) :: (q, c) :: (p, a) :: swc a c V, by simp [swc_letters], fun t ht0 => ?_, fun x hx => ?_, ?_⟩
        · by_cases hta : a = t
          · subst hta
            simp only [cls_append, cls_cons, if_true, if_neg hca, swc_cls]
            exact (pw2 ht).2 ⟨x1, z2, x4, fun b hb => y2 b (z4 b hb)⟩
          · by_cases htc : c = t
            · subst htc
              simp only [cls_append, cls_cons, if_true, if_neg hta, swc_cls]
              rw [if_neg hca]
              exact (pw3 ht).2 ⟨z1, x2, y1, z3, x5⟩
            · have := h2 t ht0
              simp only [cls_append, cls_cons, if_neg hta, if_neg htc, swc_cls] at this ⊢
              rw [if_neg (fun e => hta e.symm), if_neg (fun e => htc e.symm)]
              exact this
        · have hx2 : x ∈ U ∨ x = (r, c) ∨ x = (q, c) ∨ x = (p, a) ∨ x ∈ swc a c V := by
            simp at hx ⊢
            rcases hx with e | e | e | e | e <;> simp [e]
          rcases hx2 with e | e | e | e | e
          · exact hb x (List.mem_append_left _ e)
          · rw [e]; exact hc1
          · rw [e]; exact hc1
          · rw [e]; exact ha1
          · exact swc_le ha1 hc1 (fun y hy => hb y (List.mem_append_right _ hy)) x e
        · rw [← h4]; simp only [ncol_append, ncol_cons, if_neg ha0, if_neg hc0, swc_ncol ha0 hc0]
  · refine ⟨U ++ (r, c) :: (q, b) :: (p, a) :: V, by simp, fun t ht0 => ?_, fun x hx => ?_, ?_⟩
    · have := h2 t ht0
      simp only [cls_append, cls_cons] at this ⊢
      by_cases h5 : a = t
      · by_cases h6 : b = t
        · exact absurd ⟨by omega, by omega⟩ hab
        · rw [if_neg h6, if_pos h5]; rw [if_pos h5, if_neg h6] at this; exact this
      · rw [if_neg h5]; rw [if_neg h5] at this; exact this
    · apply h3
      simp at hx ⊢
      rcases hx with e | e | e | e | e <;> simp [e]
    · rw [← h4]; simp only [ncol_append, ncol_cons]; omega
/-- Kept by KNUTH's steps. -/
theorem can_up {k n : Nat} {a b : List Int} (h : Kn a b) : Can (· ≤ ·) k a n ↔ Can (· ≤ ·) k b n := by
  have ht : ∀ a b c : Int, a ≤ b → b ≤ c → a ≤ c := fun _ _ _ => Int.le_trans
  induction h with
  | refl w => rfl
  | step u v k1 =>
    cases k1 with
    | a x y z h1 h2 => exact ⟨fun h => canG3 ht h (fun e => by omega), fun h => canG3 ht h (fun _ => ⟨h2, fun b hb => by omega, fun a ha => by omega, by omega⟩)⟩
    | b x y z h1 h2 => exact ⟨fun h => canG2 ht h (fun _ => ⟨h1, fun a ha => by omega, fun b hb => by omega, by omega⟩), fun h => canG2 ht h (fun e => by omega)⟩
  | symm _ ih => exact ih.symm
  | trans _ _ ih1 ih2 => exact ih1.trans ih2
theorem can_dn {k n : Nat} {a b : List Int} (h : Kn a b) : Can (fun a b => b < a) k a n ↔ Can (fun a b => b < a) k b n := by
  have ht : ∀ a b c : Int, b < a → c < b → c < a := fun a b c h1 h2 => by omega
  induction h with
  | refl w => rfl
  | step u v k1 =>
    cases k1 with
    | a x y z h1 h2 => exact ⟨fun h => canG3 ht h (fun _ => ⟨h1, fun b hb => by omega, fun a ha => by omega, by omega⟩), fun h => canG3 ht h (fun e => by omega)⟩
    | b x y z h1 h2 => exact ⟨fun h => canG2 ht h (fun e => by omega), fun h => canG2 ht h (fun _ => ⟨h2, fun a ha => by omega, fun b hb => by omega, by omega⟩)⟩
  | symm _ ih => exact ih.symm
  | trans _ _ ih1 ih2 => exact ih1.trans ih2
/-- A block that has one letter of each colour at most. -/
theorem block_bound {R : Int → Int → Prop} {L : List (Int × Nat)} {k : Nat} (h : ∀ t, 0 < t → (cls L t).Pairwise R) (hk : ∀ p ∈ L, p.2 ≤ k) (hb : (L.map (·.1)).Pairwise (fun a b => ¬ R a b)) : ncol L ≤ min k L.length := by
  have h1 : ∀ t, 0 < t → (cls L t).length ≤ 1 := fun t ht0 => by
    have hp := h t ht0
    have hs : (cls L t).Pairwise (fun a b => ¬ R a b) := List.Pairwise.sublist (List.Sublist.map _ List.filter_sublist) hb
    match hc : cls L t with
    | [] => simp
    | [a] => simp
    | a :: b :: l =>
      rw [hc] at hp hs
      exact absurd ((List.pairwise_cons.1 hp).1 b (by simp)) ((List.pairwise_cons.1 hs).1 b (by simp))
  have h2 : ∀ k, L.countP (fun p => decide (1 ≤ p.2 ∧ p.2 ≤ k)) ≤ k := fun k => by
    induction k with
    | zero =>
      have : L.countP (fun p => decide (1 ≤ p.2 ∧ p.2 ≤ 0)) = 0 := by
        rw [List.countP_eq_zero]; intro p _; simp; omega
      omega
    | succ k ih =>
      have h3 : ∀ M : List (Int × Nat), M.countP (fun p => decide (1 ≤ p.2 ∧ p.2 ≤ k + 1)) = M.countP (fun p => decide (1 ≤ p.2 ∧ p.2 ≤ k)) + (cls M (k + 1)).length := fun M => by
        induction M with
        | nil => rfl
        | cons p M ihM =>
          rw [cls_cons]
          by_cases c1 : p.2 = k + 1
          · rw [List.countP_cons_of_pos (by simp; omega), List.countP_cons_of_neg (by simp; omega), if_pos c1, ihM]; simp; omega
          · by_cases c2 : 1 ≤ p.2 ∧ p.2 ≤ k
            · rw [List.countP_cons_of_pos (by simp; omega), List.countP_cons_of_pos (by simpa using c2), if_neg c1, ihM]; omega
            · rw [List.countP_cons_of_neg (by simp; omega), List.countP_cons_of_neg (by simp; omega), if_neg c1, ihM]
      have := h3 L
      have := h1 (k + 1) (by omega)
      omega
  have h4 : ncol L ≤ L.countP (fun p => decide (1 ≤ p.2 ∧ p.2 ≤ k)) := by
    unfold ncol
    refine List.countP_mono_left (fun p hp h => ?_)
    have := hk p hp
    simp at h ⊢
    omega
  have h5 := h2 k
  have h6 : ncol L ≤ L.length := List.countP_le_length
  omega
theorem can_split {R : Int → Int → Prop} {k n : Nat} {a b : List Int} (h : Can R k (a ++ b) n) (hb : b.Pairwise (fun a b => ¬ R a b)) : ∃ m, Can R k a m ∧ n ≤ m + min k b.length := by
  obtain ⟨L, h1, h2, h3, h4⟩ := h
  obtain ⟨U, V, rfl, rfl, rfl⟩ := List.map_eq_append_iff.1 h1
  refine ⟨ncol U, ⟨U, rfl, fun t ht => ?_, fun p hp => h3 p (List.mem_append_left _ hp), rfl⟩, ?_⟩
  · have := h2 t ht
    rw [cls_append] at this
    exact (List.pairwise_append.1 this).1
  · rw [ncol_append] at h4
    have := block_bound (L := V) (k := k) (fun t ht => by
      have := h2 t ht
      rw [cls_append] at this
      exact (List.pairwise_append.1 this).2.1) (fun p hp => h3 p (List.mem_append_right _ hp)) hb
    rw [List.length_map]; omega
theorem can_split' {R : Int → Int → Prop} {k n : Nat} {a b : List Int} (h : Can R k (a ++ b) n) (ha : a.Pairwise (fun a b => ¬ R a b)) : ∃ m, Can R k b m ∧ n ≤ min k a.length + m := by
  obtain ⟨L, h1, h2, h3, h4⟩ := h
  obtain ⟨U, V, rfl, rfl, rfl⟩ := List.map_eq_append_iff.1 h1
  refine ⟨ncol V, ⟨V, rfl, fun t ht => ?_, fun p hp => h3 p (List.mem_append_right _ hp), rfl⟩, ?_⟩
  · have := h2 t ht
    rw [cls_append] at this
    exact (List.pairwise_append.1 this).2.1
  · rw [ncol_append] at h4
    have := block_bound (L := U) (k := k) (fun t ht => by
      have := h2 t ht
      rw [cls_append] at this
      exact (List.pairwise_append.1 this).1) (fun p hp => h3 p (List.mem_append_left _ hp)) ha
    rw [List.length_map]; omega
theorem can_nil {R : Int → Int → Prop} {k n : Nat} (h : Can R k [] n) : n = 0 := by
  obtain ⟨L, h1, _, _, h4⟩ := h
  obtain rfl : L = [] := by simpa using h1
  exact h4.symm
/-- In the rows' word: as many as the columns have. -/
theorem can_rows {k : Nat} : ∀ {T : List (List Int)} {n : Nat}, Tab T → Can (fun a b => b < a) k (rword T) n → n ≤ (T.map (fun r => min k r.length)).sum
  | [], n, _, h => by rw [can_nil h]; exact Nat.zero_le _
  | r :: t, n, ht, h => by
    obtain ⟨m, h1, h2⟩ := can_split h (List.Pairwise.imp (fun hab => by omega) ht.2.1)
    have := can_rows ht.2.2.2 h1
    simp only [List.map_cons, List.sum_cons]; omega
/-- In the columns' word: as many as the rows have. -/
theorem can_cols {k : Nat} : ∀ {cs : List (List Int)} {n : Nat}, CTab cs → Can (· ≤ ·) k (cword cs) n → n ≤ (cs.map (fun c => min k c.length)).sum
  | [], n, _, h => by rw [can_nil h]; exact Nat.zero_le _
  | c :: cs, n, ht, h => by
    obtain ⟨m, h1, h2⟩ := can_split' h (List.pairwise_reverse.2 (List.Pairwise.imp (fun hab => by omega) ht.2.1))
    have := can_cols ht.2.2.2 h1
    rw [List.length_reverse] at h2
    simp only [List.map_cons, List.sum_cons]; omega
theorem addCol_top : ∀ (U : List (List Int)) (c : List Int) (k : Nat), boxes ((addCol U c).take k) = boxes (U.take k) + min k c.length
  | U, [], k => by simp [addCol]
  | [], b :: c, 0 => by simp [boxes]
  | [], b :: c, k + 1 => by
    have := addCol_top [] c k
    simp only [addCol, List.take_succ_cons, boxes_cons, List.length_cons, List.length_nil]
    rw [this]; simp [boxes]; omega
  | s :: U, b :: c, 0 => by simp [boxes]
  | s :: U, b :: c, k + 1 => by
    have := addCol_top U c k
    simp only [addCol, List.take_succ_cons, boxes_cons, List.length_append, List.length_cons, List.length_nil]
    rw [this]; omega
theorem fill_top (k : Nat) : ∀ (cs U : List (List Int)), boxes ((fillC U cs).take k) = boxes (U.take k) + (cs.map (fun c => min k c.length)).sum
  | [], U => by simp [fillC]
  | c :: cs, U => by
    have e : fillC U (c :: cs) = fillC (addCol U c) cs := rfl
    rw [e, fill_top k cs, addCol_top]
    simp only [List.map_cons, List.sum_cons]; omega
/-- GREENE: no choice of k subsequences that don't fall has more letters than k rows have. -/
theorem greene_up {xs : List Int} {k n : Nat} (h : Can (· ≤ ·) k xs n) : n ≤ boxes ((insW [] xs).take k) := by
  have ht : Tab (insW [] xs) := insW_tab xs trivial
  obtain ⟨cs, hr, hc⟩ := ht.cols
  have h1 : Kn xs (rword (insW [] xs)) := by
    have := insW_word xs (T := []) (fun r hr => by simp at hr)
    simpa [rword] using this
  have h2 := hr.made hc
  have h3 : Kn (cword cs) (rword (insW [] xs)) := by
    have := insW_word (cword cs) (T := []) (fun r hr => by simp at hr)
    rw [← h2] at this
    simpa [rword] using this
  have h4 := can_cols hc ((can_up (h1.trans h3.symm)).1 h)
  have h5 := fill_top k cs []
  rw [← insW_cols cs hc (ColOk.nil _), ← h2] at h5
  rw [h5]; simp [boxes]; exact h4
theorem greene_dn {xs : List Int} {k n : Nat} (h : Can (fun a b => b < a) k xs n) : n ≤ ((insW [] xs).map (fun r => min k r.length)).sum := by
  have ht : Tab (insW [] xs) := insW_tab xs trivial
  have h1 : Kn xs (rword (insW [] xs)) := by
    have := insW_word xs (T := []) (fun r hr => by simp at hr)
    simpa [rword] using this
  exact can_rows ht ((can_dn h1).1 h)
/-- SCHENSTED: there is one that has as many letters as the first row. -/
theorem row_can {xs : List Int} : Can (· ≤ ·) 1 xs (boxes ((insW [] xs).take 1)) := by
  have ht : Tab (insW [] xs) := insW_tab xs trivial
  have h1 : Kn xs (rword (insW [] xs)) := by
    have := insW_word xs (T := []) (fun r hr => by simp at hr)
    simpa [rword] using this
  refine (can_up h1).2 ?_
  cases e : insW [] xs with
  | nil => exact ⟨[], rfl, fun t _ => List.Pairwise.nil, fun p hp => by simp at hp, rfl⟩
  | cons r t =>
    rw [e] at ht
    have c1 : ∀ (l : List Int) (t : Nat), 0 < t → cls (l.map (fun x => (x, 0))) t = [] := fun l t ht0 => by
      induction l with
      | nil => rfl
      | cons a l ih => rw [List.map_cons, cls_cons, if_neg (by show ¬ 0 = t; omega), ih]
    have c2 : ∀ (l : List Int) (t : Nat), cls (l.map (fun x => (x, 1))) t = if t = 1 then l else [] := fun l t => by
      induction l with
      | nil => split <;> rfl
      | cons a l ih =>
        rw [List.map_cons, cls_cons, ih]
        by_cases h : t = 1
        · simp [h]
        · rw [if_neg (by show ¬ 1 = t; omega), if_neg h, if_neg h]
    have c3 : ∀ (l : List Int), ncol (l.map (fun x => (x, 0))) = 0 := fun l => by
      induction l with
      | nil => rfl
      | cons a l ih => rw [List.map_cons, ncol_cons, ih]; rfl
    have c4 : ∀ (l : List Int), ncol (l.map (fun x => (x, 1))) = l.length := fun l => by
      induction l with
      | nil => rfl
      | cons a l ih => rw [List.map_cons, ncol_cons, ih]; simp
    refine ⟨(rword t).map (fun x => (x, 0)) ++ r.map (fun x => (x, 1)), by simp [rword, Function.comp_def], fun t' ht0 => ?_, fun p hp => ?_, ?_⟩
    · rw [cls_append, c1 _ _ ht0, c2, List.nil_append]
      split
      · exact ht.2.1
      · exact List.Pairwise.nil
    · rcases List.mem_append.1 hp with e | e
      · obtain ⟨x, _, rfl⟩ := List.mem_map.1 e; exact Nat.zero_le _
      · obtain ⟨x, _, rfl⟩ := List.mem_map.1 e; exact Nat.le_refl _
    · rw [ncol_append, c3, c4]; simp [boxes]
end Go.Proofs.YtmlmdklheiafpaaDoor
