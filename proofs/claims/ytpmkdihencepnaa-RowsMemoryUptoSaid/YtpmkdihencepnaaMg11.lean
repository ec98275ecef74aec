/-
  Plain: GREENE's bound: letters of a word in so many subsequences; kept by KNUTH's steps.
-/
import Derived.Test.YtpmkdihencepnaaMg04
import Derived.Test.YtpmkdihencepnaaMg06
import Derived.Test.YtpmkdihencepnaaMg07
namespace Go.Proofs.Ytpmkdihencepnaa

/-- The letters of one colour. -/
def cls (L : List (Int × Nat)) (t : Nat) : List Int := (L.filter (fun p => decide (p.2 = t))).map (·.1)
theorem cls_append (L M : List (Int × Nat)) (t : Nat) : cls (L ++ M) t = cls L t ++ cls M t := by simp [cls]
theorem cls_cons (p : Int × Nat) (L : List (Int × Nat)) (t : Nat) : cls (p :: L) t = if p.2 = t then p.1 :: cls L t else cls L t := by
  unfold cls
  by_cases h : p.2 = t
  · rw [List.filter_cons_of_pos (by simpa using h), if_pos h]; rfl
  · rw [List.filter_cons_of_neg (by simpa using h), if_neg h]
/-- How many letters are coloured. -/
def ncol (L : List (Int × Nat)) : Nat := L.countP (fun p => decide (p.2 ≠ 0))
theorem ncol_append (L M : List (Int × Nat)) : ncol (L ++ M) = ncol L + ncol M := by simp [ncol]
theorem ncol_cons (p : Int × Nat) (L : List (Int × Nat)) : ncol (p :: L) = ncol L + if p.2 = 0 then 0 else 1 := by
  unfold ncol
  by_cases h : p.2 = 0
  · rw [List.countP_cons_of_neg (by simpa using h), if_pos h]; rfl
  · rw [List.countP_cons_of_pos (by simpa using h), if_neg h]
/-- Letters of a word in k subsequences, n together. -/
def Can (R : Int → Int → Prop) (k : Nat) (w : List Int) (n : Nat) : Prop := ∃ L : List (Int × Nat), L.map (·.1) = w ∧ (∀ t, 0 < t → (cls L t).Pairwise R) ∧ (∀ p ∈ L, p.2 ≤ k) ∧ ncol L = n
theorem pw3 {R : Int → Int → Prop} (ht : ∀ a b c, R a b → R b c → R a c) {A B : List Int} {p r : Int} : (A ++ p :: r :: B).Pairwise R ↔ A.Pairwise R ∧ B.Pairwise R ∧ R p r ∧ (∀ a ∈ A, R a p) ∧ ∀ b ∈ B, R r b := by
  rw [List.pairwise_append, List.pairwise_cons, List.pairwise_cons]
  constructor
  · rintro ⟨h1, ⟨h2, h3, h4⟩, h5⟩
    exact ⟨h1, h4, h2 r (by simp), fun a ha => h5 a ha p (by simp), fun b hb => h3 b hb⟩
  · rintro ⟨h1, h2, h3, h4, h5⟩
    refine ⟨h1, ⟨fun x hx => ?_, fun x hx => h5 x hx, h2⟩, fun a ha b hb => ?_⟩
    · rcases List.mem_cons.1 hx with e | e
      · rw [e]; exact h3
      · exact ht _ _ _ h3 (h5 x e)
    · rcases List.mem_cons.1 hb with e | e
      · rw [e]; exact h4 a ha
      · rcases List.mem_cons.1 e with e | e
        · rw [e]; exact ht _ _ _ (h4 a ha) h3
        · exact ht _ _ _ (h4 a ha) (ht _ _ _ h3 (h5 b e))
theorem pw2 {R : Int → Int → Prop} (ht : ∀ a b c, R a b → R b c → R a c) {A B : List Int} {p : Int} : (A ++ p :: B).Pairwise R ↔ A.Pairwise R ∧ B.Pairwise R ∧ (∀ a ∈ A, R a p) ∧ ∀ b ∈ B, R p b := by
  rw [List.pairwise_append, List.pairwise_cons]
  constructor
  · rintro ⟨h1, ⟨h2, h3⟩, h4⟩
    exact ⟨h1, h3, fun a ha => h4 a ha p (by simp), h2⟩
  · rintro ⟨h1, h2, h3, h4⟩
    refine ⟨h1, ⟨h4, h2⟩, fun a ha b hb => ?_⟩
    rcases List.mem_cons.1 hb with e | e
    · rw [e]; exact h3 a ha
    · exact ht _ _ _ (h3 a ha) (h4 b e)
/-- Two colours change places. -/
def swc (c e : Nat) (L : List (Int × Nat)) : List (Int × Nat) := L.map (fun p => (p.1, if p.2 = c then e else if p.2 = e then c else p.2))
theorem swc_key (c e q t : Nat) : ((if q = c then e else if q = e then c else q) = t) ↔ (q = (if t = c then e else if t = e then c else t)) := by
  by_cases h1 : q = c
  · rw [if_pos h1]
    by_cases h2 : t = c
    · rw [if_pos h2]; omega
    · rw [if_neg h2]
      by_cases h3 : t = e
      · rw [if_pos h3]; omega
      · rw [if_neg h3]; omega
  · rw [if_neg h1]
    by_cases h1' : q = e
    · rw [if_pos h1']
      by_cases h2 : t = c
      · rw [if_pos h2]; omega
      · rw [if_neg h2]
        by_cases h3 : t = e
        · rw [if_pos h3]; omega
        · rw [if_neg h3]; omega
    · rw [if_neg h1']
      by_cases h2 : t = c
      · rw [if_pos h2]; omega
      · rw [if_neg h2]
        by_cases h3 : t = e
        · rw [if_pos h3]; omega
        · rw [if_neg h3]
theorem swc_cls {c e : Nat} (L : List (Int × Nat)) (t : Nat) : cls (swc c e L) t = cls L (if t = c then e else if t = e then c else t) := by
  induction L with
  | nil => rfl
  | cons p L ih =>
    have : swc c e (p :: L) = (p.1, if p.2 = c then e else if p.2 = e then c else p.2) :: swc c e L := rfl
    rw [this, cls_cons, cls_cons, ih]
    by_cases h : p.2 = (if t = c then e else if t = e then c else t)
    · rw [if_pos h, if_pos ((swc_key c e p.2 t).2 h)]
    · rw [if_neg h, if_neg (fun h' => h ((swc_key c e p.2 t).1 h'))]
theorem swc_letters (c e : Nat) (L : List (Int × Nat)) : (swc c e L).map (·.1) = L.map (·.1) := by simp [swc]
theorem swc_ncol {c e : Nat} (hc : c ≠ 0) (he : e ≠ 0) (L : List (Int × Nat)) : ncol (swc c e L) = ncol L := by
  induction L with
  | nil => rfl
  | cons p L ih =>
    have : swc c e (p :: L) = (p.1, if p.2 = c then e else if p.2 = e then c else p.2) :: swc c e L := rfl
    rw [this, ncol_cons, ncol_cons, ih]
    congr 1
    show (if (if p.2 = c then e else if p.2 = e then c else p.2) = 0 then 0 else 1) = _
    by_cases h1 : p.2 = c
    · rw [if_pos h1, if_neg he, if_neg (by omega)]
    · rw [if_neg h1]
      by_cases h2 : p.2 = e
      · rw [if_pos h2, if_neg hc, if_neg (by omega)]
      · rw [if_neg h2]
theorem swc_le {c e k : Nat} (hc : c ≤ k) (he : e ≤ k) {L : List (Int × Nat)} (h : ∀ p ∈ L, p.2 ≤ k) : ∀ p ∈ swc c e L, p.2 ≤ k := fun p hp => by
  obtain ⟨q, hq, rfl⟩ := List.mem_map.1 hp
  have := h q hq
  show (if q.2 = c then e else if q.2 = e then c else q.2) ≤ k
  split
  · exact he
  · split
    · exact hc
    · exact this
theorem split3 {L : List (Int × Nat)} {u v : List Int} {p q r : Int} (h : L.map (·.1) = u ++ [p, q, r] ++ v) : ∃ U V a b c, L = U ++ (p, a) :: (q, b) :: (r, c) :: V ∧ U.map (·.1) = u ∧ V.map (·.1) = v := by
  rw [List.append_assoc] at h
  obtain ⟨U, W, rfl, hU, hW⟩ := List.map_eq_append_iff.1 h
  cases W with
  | nil => simp at hW
  | cons x W =>
    cases W with
    | nil => simp at hW
    | cons y W =>
      cases W with
      | nil => simp at hW
      | cons z W =>
        simp at hW
        obtain ⟨h1, h2, h3, h4⟩ := hW
        exact ⟨U, W, x.2, y.2, z.2, by rw [← h1, ← h2, ← h3], hU, h4⟩
/-- What a word and its step have alike where the first two change places. -/
theorem canG2 {R : Int → Int → Prop} (ht : ∀ a b c, R a b → R b c → R a c) {k n : Nat} {u v : List Int} {p q r : Int} (h : Can R k (u ++ [p, q, r] ++ v) n)
    (hc : R p q → R p r ∧ (∀ a, R a r → R a q) ∧ (∀ b, R q b → R r b) ∧ ¬ R q r) : Can R k (u ++ [q, p, r] ++ v) n := by
  obtain ⟨L, h1, h2, h3, h4⟩ := h
  obtain ⟨U, V, a, b, c, rfl, rfl, rfl⟩ := split3 h1
  have hb : ∀ x ∈ U ++ V, x.2 ≤ k := fun x hx => h3 x (by simp at hx ⊢; rcases hx with e | e <;> simp [e])
  have ha1 : a ≤ k := h3 (p, a) (by simp)
  have hb1 : b ≤ k := h3 (q, b) (by simp)
  have hc1 : c ≤ k := h3 (r, c) (by simp)
  by_cases hab : a = b ∧ a ≠ 0
  · obtain ⟨rfl, ha0⟩ := hab
    have e1 := h2 a (by omega)
    simp only [cls_append, cls_cons, if_true] at e1
    by_cases hca : c = a
    · exfalso
      rw [if_pos hca] at e1
      have := (List.pairwise_append.1 e1).2.1
      have h5 := List.pairwise_cons.1 this
      have h6 := List.pairwise_cons.1 h5.2
      exact (hc (h5.1 q (by simp))).2.2.2 (h6.1 r (by simp))
    · rw [if_neg hca] at e1
      obtain ⟨x1, x2, x3, x4, x5⟩ := (pw3 ht).1 e1
      obtain ⟨y1, y2, y3, _⟩ := hc x3
      by_cases hc0 : c = 0
      · subst hc0
        refine ⟨U ++ (q, 0) :: (p, a) :: (r, a) :: V, by simp, fun t ht0 => ?_, fun x hx => ?_, ?_⟩
        · by_cases hta : a = t
          · subst hta
            simp only [cls_append, cls_cons, if_true]
            rw [if_neg (by omega)]
            exact (pw3 ht).2 ⟨x1, x2, y1, x4, fun b hb => y3 b (x5 b hb)⟩
          · have := h2 t ht0
            simp only [cls_append, cls_cons, if_neg hta, if_neg (show ¬ 0 = t by omega)] at this ⊢
            exact this
        · have hx2 : x ∈ U ++ V ∨ x = (q, 0) ∨ x = (p, a) ∨ x = (r, a) := by
            simp at hx ⊢
            rcases hx with e | e | e | e | e <;> simp [e]
          rcases hx2 with e | e | e | e
          · exact hb x e
          · rw [e]; exact Nat.zero_le _
          · rw [e]; exact ha1
          · rw [e]; exact ha1
        · rw [← h4]; simp only [ncol_append, ncol_cons, if_true, if_neg ha0] <;> omega
      · have e2 := h2 c (by omega)
        simp only [cls_append, cls_cons, if_true, if_neg (fun e => hca (Eq.symm e) : ¬ a = c)] at e2
        obtain ⟨z1, z2, z3, z4⟩ := (pw2 ht).1 e2
        refine ⟨U ++ (q, c) :: (p, a) :: (r, a) :: swc a c V, by simp [swc_letters], fun t ht0 => ?_, fun x hx => ?_, ?_⟩
        · by_cases hta : a = t
          · subst hta
            simp only [cls_append, cls_cons, if_true, if_neg hca, swc_cls]
            exact (pw3 ht).2 ⟨x1, z2, y1, x4, z4⟩
          · by_cases htc : c = t
            · subst htc
              simp only [cls_append, cls_cons, if_true, if_neg hta, swc_cls]
              rw [if_neg hca]
              exact (pw2 ht).2 ⟨z1, x2, fun a ha => y2 a (z3 a ha), x5⟩
            · have := h2 t ht0
              simp only [cls_append, cls_cons, if_neg hta, if_neg htc, swc_cls] at this ⊢
              rw [if_neg (fun e => hta e.symm), if_neg (fun e => htc e.symm)]
              exact this
        · have hx2 : x ∈ U ∨ x = (q, c) ∨ x = (p, a) ∨ x = (r, a) ∨ x ∈ swc a c V := by
            simp at hx ⊢
            rcases hx with e | e | e | e | e <;> simp [e]
          rcases hx2 with e | e | e | e | e
          · exact hb x (List.mem_append_left _ e)
          · rw [e]; exact hc1
          · rw [e]; exact ha1
          · rw [e]; exact ha1
          · exact swc_le ha1 hc1 (fun y hy => hb y (List.mem_append_right _ hy)) x e
        · rw [← h4]; simp only [ncol_append, ncol_cons, if_neg ha0, if_neg hc0, swc_ncol ha0 hc0]
  · refine ⟨U ++ (q, b) :: (p, a) :: (r, c) :: V, by simp, fun t ht0 => ?_, fun x hx => ?_, ?_⟩
    · have := h2 t ht0
      simp only [cls_append, cls_cons] at this ⊢
      by_cases h5 : a = t
      · by_cases h6 : b = t
        · exact absurd ⟨by omega, by omega⟩ hab
        · rw [if_neg h6, if_pos h5]; rw [if_pos h5, if_neg h6] at this; exact this
      · rw [if_neg h5]; rw [if_neg h5] at this; exact this
    · apply h3
      simp at hx ⊢
      rcases hx with e | e | e | e | e <;> simp [e]
    · rw [← h4]; simp only [ncol_append, ncol_cons]; omega
/-- What a word and its step have alike where the last two change places. -/
theorem canG3 {R : Int → Int → Prop} (ht : ∀ a b c, R a b → R b c → R a c) {k n : Nat} {u v : List Int} {p q r : Int} (h : Can R k (u ++ [r, p, q] ++ v) n)
    (hc : R p q → R r q ∧ (∀ b, R r b → R p b) ∧ (∀ a, R a p → R a r) ∧ ¬ R r p) : Can R k (u ++ [r, q, p] ++ v) n := by
  obtain ⟨L, h1, h2, h3, h4⟩ := h
  obtain ⟨U, V, c, a, b, rfl, rfl, rfl⟩ := split3 h1
  have hb : ∀ x ∈ U ++ V, x.2 ≤ k := fun x hx => h3 x (by simp at hx ⊢; rcases hx with e | e <;> simp [e])
  have ha1 : a ≤ k := h3 (p, a) (by simp)
  have hc1 : c ≤ k := h3 (r, c) (by simp)
  by_cases hab : a = b ∧ a ≠ 0
  · obtain ⟨rfl, ha0⟩ := hab
    have e1 := h2 a (by omega)
    simp only [cls_append, cls_cons, if_true] at e1
    by_cases hca : c = a
    · exfalso
      rw [if_pos hca] at e1
      have := (List.pairwise_append.1 e1).2.1
      have h5 := List.pairwise_cons.1 this
      have h6 := List.pairwise_cons.1 h5.2
      exact (hc (h6.1 q (by simp))).2.2.2 (h5.1 p (by simp))
    · rw [if_neg hca] at e1
      obtain ⟨x1, x2, x3, x4, x5⟩ := (pw3 ht).1 e1
      obtain ⟨y1, y2, y3, _⟩ := hc x3
      by_cases hc0 : c = 0
      · subst hc0
        refine ⟨U ++ (r, a) :: (q, a) :: (p, 0) :: V, by simp, fun t ht0 => ?_, fun x hx => ?_, ?_⟩
        · by_cases hta : a = t
          · subst hta
            simp only [cls_append, cls_cons, if_true]
            rw [if_neg (by omega)]
            exact (pw3 ht).2 ⟨x1, x2, y1, fun z hz => y3 z (x4 z hz), x5⟩
          · have := h2 t ht0
            simp only [cls_append, cls_cons, if_neg hta, if_neg (show ¬ 0 = t by omega)] at this ⊢
            exact this
        · have hx2 : x ∈ U ++ V ∨ x = (r, a) ∨ x = (q, a) ∨ x = (p, 0) := by
            simp at hx ⊢
            rcases hx with e | e | e | e | e <;> simp [e]
          rcases hx2 with e | e | e | e
          · exact hb x e
          · rw [e]; exact ha1
          · rw [e]; exact ha1
          · rw [e]; exact Nat.zero_le _
        · rw [← h4]; simp only [ncol_append, ncol_cons, if_true, if_neg ha0] <;> omega
      · have e2 := h2 c (by omega)
        simp only [cls_append, cls_cons, if_true, if_neg (fun e => hca (Eq.symm e) : ¬ a = c)] at e2
        obtain ⟨z1, z2, z3, z4⟩ := (pw2 ht).1 e2
        refine ⟨U ++ (r, c) :: (q, c) :: (p, a) :: swc a c V, by simp [swc_letters], fun t ht0 => ?_, fun x hx => ?_, ?_⟩
        · by_cases hta : a = t
          · subst hta
            simp only [cls_append, cls_cons, if_true, if_neg hca, swc_cls]
            exact (pw2 ht).2 ⟨x1, z2, x4, fun b hb => y2 b (z4 b hb)⟩
          · by_cases htc : c = t
            · subst htc
              simp only [cls_append, cls_cons, if_true, if_neg hta, swc_cls]
              rw [if_neg hca]
              exact (pw3 ht).2 ⟨z1, x2, y1, z3, x5⟩
            · have := h2 t ht0
              simp only [cls_append, cls_cons, if_neg hta, if_neg htc, swc_cls] at this ⊢
              rw [if_neg (fun e => hta e.symm), if_neg (fun e => htc e.symm)]
              exact this
        · have hx2 : x ∈ U ∨ x = (r, c) ∨ x = (q, c) ∨ x = (p, a) ∨ x ∈ swc a c V := by
            simp at hx ⊢
            rcases hx with e | e | e | e | e <;> simp [e]
          rcases hx2 with e | e | e | e | e
          · exact hb x (List.mem_append_left _ e)
          · rw [e]; exact hc1
          · rw [e]; exact hc1
          · rw [e]; exact ha1
          · exact swc_le ha1 hc1 (fun y hy => hb y (List.mem_append_right _ hy)) x e
        · rw [← h4]; simp only [ncol_append, ncol_cons, if_neg ha0, if_neg hc0, swc_ncol ha0 hc0]
  · refine ⟨U ++ (r, c) :: (q, b) :: (p, a) :: V, by simp, fun t ht0 => ?_, fun x hx => ?_, ?_⟩
    · have := h2 t ht0
      simp only [cls_append, cls_cons] at this ⊢
      by_cases h5 : a = t
      · by_cases h6 : b = t
        · exact absurd ⟨by omega, by omega⟩ hab
        · rw [if_neg h6, if_pos h5]; rw [if_pos h5, if_neg h6] at this; exact this
      · rw [if_neg h5]; rw [if_neg h5] at this; exact this
    · apply h3
      simp at hx ⊢
      rcases hx with e | e | e | e | e <;> simp [e]
    · rw [← h4]; simp only [ncol_append, ncol_cons]; omega
/-- Kept by KNUTH's steps. -/
theorem can_up {k n : Nat} {a b : List Int} (h : Kn a b) : Can (· ≤ ·) k a n ↔ Can (· ≤ ·) k b n := by
  have ht : ∀ a b c : Int, a ≤ b → b ≤ c → a ≤ c := fun _ _ _ => Int.le_trans
  induction h with
  | refl w => rfl
  | step u v k1 =>
    cases k1 with
    | a x y z h1 h2 => exact ⟨fun h => canG3 ht h (fun e => by omega), fun h => canG3 ht h (fun _ => ⟨h2, fun b hb => by omega, fun a ha => by omega, by omega⟩)⟩
    | b x y z h1 h2 => exact ⟨fun h => canG2 ht h (fun _ => ⟨h1, fun a ha => by omega, fun b hb => by omega, by omega⟩), fun h => canG2 ht h (fun e => by omega)⟩
  | symm _ ih => exact ih.symm
  | trans _ _ ih1 ih2 => exact ih1.trans ih2
/-- A block that has one letter of each colour at most. -/
theorem block_bound {R : Int → Int → Prop} {L : List (Int × Nat)} {k : Nat} (h : ∀ t, 0 < t → (cls L t).Pairwise R) (hk : ∀ p ∈ L, p.2 ≤ k) (hb : (L.map (·.1)).Pairwise (fun a b => ¬ R a b)) : ncol L ≤ min k L.length := by
  have h1 : ∀ t, 0 < t → (cls L t).length ≤ 1 := fun t ht0 => by
    have hp := h t ht0
    have hs : (cls L t).Pairwise (fun a b => ¬ R a b) := List.Pairwise.sublist (List.Sublist.map _ List.filter_sublist) hb
    match hc : cls L t with
    | [] => simp
    | [a] => simp
    | a :: b :: l =>
      rw [hc] at hp hs
      exact absurd ((List.pairwise_cons.1 hp).1 b (by simp)) ((List.pairwise_cons.1 hs).1 b (by simp))
  have h2 : ∀ k, L.countP (fun p => decide (1 ≤ p.2 ∧ p.2 ≤ k)) ≤ k := fun k => by
    induction k with
    | zero =>
      have : L.countP (fun p => decide (1 ≤ p.2 ∧ p.2 ≤ 0)) = 0 := by
        rw [List.countP_eq_zero]; intro p _; simp; omega
      omega
    | succ k ih =>
      have h3 : ∀ M : List (Int × Nat), M.countP (fun p => decide (1 ≤ p.2 ∧ p.2 ≤ k + 1)) = M.countP (fun p => decide (1 ≤ p.2 ∧ p.2 ≤ k)) + (cls M (k + 1)).length := fun M => by
        induction M with
        | nil => rfl
        | cons p M ihM =>
          rw [cls_cons]
          by_cases c1 : p.2 = k + 1
          · rw [List.countP_cons_of_pos (by simp; omega), List.countP_cons_of_neg (by simp; omega), if_pos c1, ihM]; simp; omega
          · by_cases c2 : 1 ≤ p.2 ∧ p.2 ≤ k
            · rw [List.countP_cons_of_pos (by simp; omega), List.countP_cons_of_pos (by simpa using c2), if_neg c1, ihM]; omega
            · rw [List.countP_cons_of_neg (by simp; omega), List.countP_cons_of_neg (by simp; omega), if_neg c1, ihM]
      have := h3 L
      have := h1 (k + 1) (by omega)
      omega
  have h4 : ncol L ≤ L.countP (fun p => decide (1 ≤ p.2 ∧ p.2 ≤ k)) := by
    unfold ncol
    refine List.countP_mono_left (fun p hp h => ?_)
    have := hk p hp
    simp at h ⊢
    omega
  have h5 := h2 k
  have h6 : ncol L ≤ L.length := List.countP_le_length
  omega
theorem can_split' {R : Int → Int → Prop} {k n : Nat} {a b : List Int} (h : Can R k (a ++ b) n) (ha : a.Pairwise (fun a b => ¬ R a b)) : ∃ m, Can R k b m ∧ n ≤ min k a.length + m := by
  obtain ⟨L, h1, h2, h3, h4⟩ := h
  obtain ⟨U, V, rfl, rfl, rfl⟩ := List.map_eq_append_iff.1 h1
  refine ⟨ncol V, ⟨V, rfl, fun t ht => ?_, fun p hp => h3 p (List.mem_append_right _ hp), rfl⟩, ?_⟩
  · have := h2 t ht
    rw [cls_append] at this
    exact (List.pairwise_append.1 this).2.1
  · rw [ncol_append] at h4
    have := block_bound (L := U) (k := k) (fun t ht => by
      have := h2 t ht
      rw [cls_append] at this
      exact (List.pairwise_append.1 this).1) (fun p hp => h3 p (List.mem_append_left _ hp)) ha
    rw [List.length_map]; omega
theorem can_nil {R : Int → Int → Prop} {k n : Nat} (h : Can R k [] n) : n = 0 := by
  obtain ⟨L, h1, _, _, h4⟩ := h
  obtain rfl : L = [] := by simpa using h1
  exact h4.symm
/-- In the columns' word: as many as the rows have. -/
theorem can_cols {k : Nat} : ∀ {cs : List (List Int)} {n : Nat}, CTab cs → Can (· ≤ ·) k (cword cs) n → n ≤ (cs.map (fun c => min k c.length)).sum
  | [], n, _, h => by rw [can_nil h]; exact Nat.zero_le _
  | c :: cs, n, ht, h => by
    obtain ⟨m, h1, h2⟩ := can_split' h (List.pairwise_reverse.2 (List.Pairwise.imp (fun hab => by omega) ht.2.1))
    have := can_cols ht.2.2.2 h1
    rw [List.length_reverse] at h2
    simp only [List.map_cons, List.sum_cons]; omega
theorem addCol_top : ∀ (U : List (List Int)) (c : List Int) (k : Nat), boxes ((addCol U c).take k) = boxes (U.take k) + min k c.length
  | U, [], k => by simp [addCol]
  | [], b :: c, 0 => by simp [boxes]
  | [], b :: c, k + 1 => by
    have := addCol_top [] c k
    simp only [addCol, List.take_succ_cons, boxes_cons, List.length_cons, List.length_nil]
    rw [this]; simp [boxes]; omega
  | s :: U, b :: c, 0 => by simp [boxes]
  | s :: U, b :: c, k + 1 => by
    have := addCol_top U c k
    simp only [addCol, List.take_succ_cons, boxes_cons, List.length_append, List.length_cons, List.length_nil]
    rw [this]; omega
theorem fill_top (k : Nat) : ∀ (cs U : List (List Int)), boxes ((fillC U cs).take k) = boxes (U.take k) + (cs.map (fun c => min k c.length)).sum
  | [], U => by simp [fillC]
  | c :: cs, U => by
    have e : fillC U (c :: cs) = fillC (addCol U c) cs := rfl
    rw [e, fill_top k cs, addCol_top]
    simp only [List.map_cons, List.sum_cons]; omega
/-- GREENE: no choice of k subsequences that don't fall has more letters than k rows have. -/
theorem greene_up {xs : List Int} {k n : Nat} (h : Can (· ≤ ·) k xs n) : n ≤ boxes ((insW [] xs).take k) := by
  have ht : Tab (insW [] xs) := insW_tab xs trivial
  obtain ⟨cs, hr, hc⟩ := ht.cols
  have h1 : Kn xs (rword (insW [] xs)) := by
    have := insW_word xs (T := []) (fun r hr => by simp at hr)
    simpa [rword] using this
  have h2 := hr.made hc
  have h3 : Kn (cword cs) (rword (insW [] xs)) := by
    have := insW_word (cword cs) (T := []) (fun r hr => by simp at hr)
    rw [← h2] at this
    simpa [rword] using this
  have h4 := can_cols hc ((can_up (h1.trans h3.symm)).1 h)
  have h5 := fill_top k cs []
  rw [← insW_cols cs hc (ColOk.nil _), ← h2] at h5
  rw [h5]; simp [boxes]; exact h4
end Go.Proofs.Ytpmkdihencepnaa

/-
  Plain: what is recorded while a word is put in.
-/
namespace Go.Proofs.Ytpmkdihencepnaa

/-- A letter laid at the end of a row. -/
def qadd (Q : List (List Int)) (r : Nat) (c : Int) : List (List Int) := if r = Q.length then Q ++ [[c]] else Q.set r (Q.getD r [] ++ [c])
def shadd (s : List Nat) (r : Nat) : List Nat := if r = s.length then s ++ [1] else s.set r (s.getD r 0 + 1)
def sh (T : List (List Int)) : List Nat := T.map List.length
theorem sh_length (T : List (List Int)) : (sh T).length = T.length := by simp [sh]
theorem sh_getD (T : List (List Int)) (r : Nat) : (sh T).getD r 0 = (T.getD r []).length := by
  unfold sh
  rw [List.getD_eq_getElem?_getD, List.getD_eq_getElem?_getD, List.getElem?_map]
  cases T[r]? <;> simp
theorem push1_length {r : List Int} {x : Int} : (push1 r x).1.length = r.length + if (push1 r x).2 = none then 1 else 0 := by
  have := push1_len (s := r) (x := x)
  cases e : (push1 r x).2 with
  | none => rw [e] at this; simp at this; simp; omega
  | some z => rw [e] at this; simp at this; simp; omega
theorem sh_ins1 : ∀ (T : List (List Int)) (x : Int), irow T x ≤ T.length ∧ sh (ins1 T x) = shadd (sh T) (irow T x)
  | [], x => ⟨Nat.le_refl _, rfl⟩
  | r :: t, x => by
    simp only [ins1, irow]
    cases e : (push1 r x).2 with
    | none =>
      refine ⟨Nat.zero_le _, ?_⟩
      have := push1_length (r := r) (x := x)
      rw [e] at this
      simp [shadd, sh, this]
    | some z =>
      have ih := sh_ins1 t z
      have h1 := push1_length (r := r) (x := x)
      rw [e] at h1
      refine ⟨by simp; exact ih.1, ?_⟩
      have h2 : sh ((push1 r x).1 :: ins1 t z) = r.length :: sh (ins1 t z) := by simp [sh, h1]
      show sh ((push1 r x).1 :: ins1 t z) = _
      rw [h2, ih.2]
      unfold shadd
      have h3 : sh (r :: t) = r.length :: sh t := rfl
      rw [h3]
      by_cases c : irow t z = (sh t).length
      · rw [if_pos c, if_pos (by simp [c])]; rfl
      · rw [if_neg c, if_neg (by simp; exact c)]; simp
/-- What is recorded of the first i letters. -/
def recQ (xs cs : List Int) : Nat → List (List Int)
  | 0 => []
  | i + 1 => qadd (recQ xs cs i) (irow (insW [] (xs.take i)) (xs.getD i 0)) (cs.getD i 0)
end Go.Proofs.Ytpmkdihencepnaa

/-
  insert.made: what it answers.
-/
namespace Go.Proofs.Ytpmkdihencepnaa
open Go.RowKit

/-- Two tableaux that own no block together. -/
def Apt (v : Value) (hs : List Value) (u : Value) (us : List Value) : Prop := ∀ k, foot v hs k → ¬ foot u us k
def qpad (Q : List (List Int)) (r : Nat) : List (List Int) := if r = Q.length then Q ++ [[]] else Q
theorem qpad_new {Q : List (List Int)} {r : Nat} (h : r = Q.length) : qpad Q r = Q ++ [[]] := if_pos h
theorem qpad_old {Q : List (List Int)} {r : Nat} (h : ¬ r = Q.length) : qpad Q r = Q := if_neg h
theorem qpad_add {Q : List (List Int)} {r : Nat} (c : Int) (h : r ≤ Q.length) : r < (qpad Q r).length ∧ (qpad Q r).set r ((qpad Q r).getD r [] ++ [c]) = qadd Q r c := by
  unfold qpad qadd
  by_cases e : r = Q.length
  · rw [if_pos e, if_pos e]
    subst e
    refine ⟨by simp, ?_⟩
    rw [List.getD_eq_getElem?_getD, List.getElem?_append_right (Nat.le_refl _)]
    simp
  · rw [if_neg e, if_neg e]; exact ⟨by omega, rfl⟩
theorem qpad_len {Q : List (List Int)} {r n : Nat} (h : ∀ r, (Q.getD r []).length ≤ n) : ((qpad Q r).getD r []).length ≤ n := by
  unfold qpad
  by_cases e : r = Q.length
  · rw [if_pos e]
    subst e
    rw [List.getD_eq_getElem?_getD, List.getElem?_append_right (Nat.le_refl _)]
    simp
  · rw [if_neg e]; exact h r

end Go.Proofs.Ytpmkdihencepnaa

/-
  Plain: SCHUETZENBERGER'S: of the inverse P and Q change places; read from behind P is turned over.
-/
namespace Go.Proofs.Ytpmkdihencepnaa

/-- KNUTH's steps bear the greater letters' going. -/
theorem Kn.keepLe (m : Int) {a b : List Int} (h : Kn a b) : Kn (a.filter (· ≤ m)) (b.filter (· ≤ m)) := by
  induction h with
  | refl w => exact .refl _
  | step u v k =>
    rw [List.filter_append, List.filter_append, List.filter_append, List.filter_append]
    refine Kn.ctx _ _ ?_
    cases k with
    | a x y z h1 h2 =>
      by_cases c1 : z ≤ m
      · have c2 : y ≤ m := by omega
        have c3 : x ≤ m := by omega
        simp only [List.filter_cons, c1, c2, c3, decide_true, if_true, List.filter_nil]
        exact .one (.a x y z h1 h2)
      · by_cases c2 : y ≤ m
        · by_cases c3 : x ≤ m
          · simp only [List.filter_cons, c1, c2, c3, decide_true, decide_false, if_true, List.filter_nil]; exact .refl _
          · simp only [List.filter_cons, c1, c2, c3, decide_true, decide_false, if_true, List.filter_nil]; exact .refl _
        · by_cases c3 : x ≤ m
          · simp only [List.filter_cons, c1, c2, c3, decide_true, decide_false, if_true, List.filter_nil]; exact .refl _
          · simp only [List.filter_cons, c1, c2, c3, decide_false, List.filter_nil]; exact .refl _
    | b x y z h1 h2 =>
      by_cases c1 : z ≤ m
      · have c2 : y ≤ m := by omega
        have c3 : x ≤ m := by omega
        simp only [List.filter_cons, c1, c2, c3, decide_true, if_true, List.filter_nil]
        exact .one (.b x y z h1 h2)
      · by_cases c2 : y ≤ m
        · by_cases c3 : x ≤ m
          · simp only [List.filter_cons, c1, c2, c3, decide_true, decide_false, if_true, List.filter_nil]; exact .refl _
          · simp only [List.filter_cons, c1, c2, c3, decide_true, decide_false, if_true, List.filter_nil]; exact .refl _
        · by_cases c3 : x ≤ m
          · simp only [List.filter_cons, c1, c2, c3, decide_true, decide_false, if_true, List.filter_nil]; exact .refl _
          · simp only [List.filter_cons, c1, c2, c3, decide_false, List.filter_nil]; exact .refl _
  | symm _ ih => exact ih.symm
  | trans _ _ ih1 ih2 => exact ih1.trans ih2
theorem filt_none {m : Int} {b : Int} {s : List Int} (h : Up (b :: s)) (hb : ¬ b ≤ m) : (b :: s).filter (· ≤ m) = [] := by
  rw [List.filter_eq_nil_iff]
  intro x hx
  rcases List.mem_cons.1 hx with e | e
  · rw [e]; simpa using hb
  · have := h.head x e; simp; omega
theorem dom_filt {m : Int} : ∀ {r s : List Int}, Up r → Up s → Dom r s → Dom (r.filter (· ≤ m)) (s.filter (· ≤ m))
  | _, [], _, _, _ => by simp [Dom]
  | [], _ :: _, _, _, h => h.elim
  | a :: r, b :: s, hr, hs, h => by
    by_cases c : b ≤ m
    · have ca : a ≤ m := by have := h.1; omega
      rw [List.filter_cons_of_pos (a := a) (by simpa using ca), List.filter_cons_of_pos (a := b) (by simpa using c)]
      exact ⟨h.1, dom_filt hr.tail hs.tail h.2⟩
    · rw [filt_none hs c]; simp only [Dom]
/-- A tableau's letters up to m. -/
def resT (m : Int) (T : List (List Int)) : List (List Int) := (T.map (fun r => r.filter (· ≤ m))).filter (fun r => decide (r ≠ []))
theorem res_none {m : Int} : ∀ {r : List Int} {t : List (List Int)}, Tab (r :: t) → r.filter (· ≤ m) = [] → ∀ s ∈ t, s.filter (· ≤ m) = []
  | _, [], _, _ => fun s hs => by simp at hs
  | r, s :: t, h, e => by
    have hs2 : s.filter (· ≤ m) = [] := by
      have hd : Dom r s := h.2.2.1
      have hd2 := dom_filt (m := m) h.2.1 h.2.2.2.2.1 hd
      rw [e] at hd2
      cases e2 : s.filter (· ≤ m) with
      | nil => rfl
      | cons x y => rw [e2] at hd2; exact hd2.elim
    intro u hu
    rcases List.mem_cons.1 hu with e2 | e2
    · rw [e2]; exact hs2
    · exact res_none h.2.2.2 hs2 u e2
theorem res_nil {m : Int} {t : List (List Int)} (h : ∀ s ∈ t, s.filter (· ≤ m) = []) : resT m t = [] := by
  unfold resT
  rw [List.filter_eq_nil_iff]
  intro x hx
  obtain ⟨s, hs, rfl⟩ := List.mem_map.1 hx
  simp only [h s hs]; simp
theorem res_cons {m : Int} {r : List Int} {t : List (List Int)} (h : r.filter (· ≤ m) ≠ []) : resT m (r :: t) = r.filter (· ≤ m) :: resT m t := by
  unfold resT
  rw [List.map_cons, List.filter_cons_of_pos (by simpa using h)]
theorem res_skip {m : Int} {r : List Int} {t : List (List Int)} (h : r.filter (· ≤ m) = []) : resT m (r :: t) = resT m t := by
  unfold resT
  rw [List.map_cons, h, List.filter_cons_of_neg (by simp)]
theorem res_word {m : Int} : ∀ (T : List (List Int)), rword (resT m T) = (rword T).filter (· ≤ m)
  | [] => rfl
  | r :: t => by
    simp only [rword, List.filter_append]
    by_cases e : r.filter (· ≤ m) = []
    · rw [res_skip e, e, res_word t, List.append_nil]
    · rw [res_cons e]; simp only [rword]; rw [res_word t]
theorem res_tab {m : Int} : ∀ {T : List (List Int)}, Tab T → Tab (resT m T) ∧ ∀ r, (resT m T).getD r [] = (T.getD r []).filter (· ≤ m)
  | [], _ => ⟨trivial, fun r => by simp [resT]⟩
  | r :: t, h => by
    obtain ⟨ih1, ih2⟩ := res_tab (m := m) h.2.2.2
    by_cases e : r.filter (· ≤ m) = []
    · have h1 := res_none h e
      have h2 : resT m (r :: t) = [] := by rw [res_skip e]; exact res_nil h1
      rw [h2]
      refine ⟨trivial, fun q => ?_⟩
      cases q with
      | zero => simpa using e
      | succ q =>
        have := ih2 q
        rw [res_nil h1] at this
        simpa using this
    · rw [res_cons e]
      refine ⟨⟨e, List.Pairwise.sublist List.filter_sublist h.2.1, ?_, ih1⟩, fun q => ?_⟩
      · have h0 := ih2 0
        have h3 : (resT m t).headD [] = (resT m t).getD 0 [] := by cases resT m t <;> simp
        rw [h3, h0]
        cases t with
        | nil => simp [Dom]
        | cons s t => exact dom_filt h.2.1 h.2.2.2.2.1 h.2.2.1
      · cases q with
        | zero => simp
        | succ q => simpa using ih2 q
/-- Of the letters up to m: the tableau's letters up to m. -/
theorem res_made (m : Int) (w : List Int) : insW [] (w.filter (· ≤ m)) = resT m (insW [] w) := by
  have ht : Tab (insW [] w) := insW_tab w trivial
  have h1 : Kn w (rword (insW [] w)) := by
    have := insW_word w (T := []) (fun r hr => by simp at hr)
    simpa [rword] using this
  rw [insW_Kn0 _ (Nat.le_refl _) (h1.keepLe m), ← res_word, insW_rword (res_tab ht).1]

/-- k rows' letters are in k subsequences. -/
theorem rows_can : ∀ (T : List (List Int)) (c k : Nat), (∀ r ∈ T, Up r) → ∃ L : List (Int × Nat), L.map (·.1) = rword T ∧ (∀ t, 0 < t → (cls L t).Pairwise (· ≤ ·)) ∧ (∀ p ∈ L, p.2 ≤ c + k ∧ (p.2 = 0 ∨ c < p.2)) ∧ ncol L = boxes (T.take k)
  | [], c, k, _ => ⟨[], rfl, fun _ _ => List.Pairwise.nil, fun p hp => by simp at hp, by simp [boxes, ncol]⟩
  | r :: t, c, k, h => by
    have c1 : ∀ (l : List Int) (d t : Nat), cls (l.map (fun x => (x, d))) t = if t = d then l else [] := fun l d t => by
      induction l with
      | nil => split <;> rfl
      | cons a l ih =>
        rw [List.map_cons, cls_cons, ih]
        by_cases h : t = d
        · simp [h]
        · rw [if_neg (by show ¬ d = t; omega), if_neg h, if_neg h]
    have c2 : ∀ (l : List Int) (d : Nat), ncol (l.map (fun x => (x, d))) = if d = 0 then 0 else l.length := fun l d => by
      induction l with
      | nil => split <;> rfl
      | cons a l ih =>
        rw [List.map_cons, ncol_cons, ih]
        by_cases h : d = 0
        · simp [h]
        · rw [if_neg h, if_neg h, if_neg h]; simp
    have c3 : ∀ (l : List Int) (d : Nat), (l.map (fun x => (x, d))).map (·.1) = l := fun l d => by simp [Function.comp_def]
    have ht := fun s hs => h s (List.mem_cons_of_mem r hs)
    cases k with
    | zero =>
      obtain ⟨L, h1, h2, h3, h4⟩ := rows_can t c 0 ht
      refine ⟨L ++ r.map (fun x => (x, 0)), by rw [List.map_append, h1, c3]; rfl, fun t' ht' => ?_, fun p hp => ?_, by rw [ncol_append, h4, c2]; simp [boxes]⟩
      · rw [cls_append, c1, if_neg (by omega), List.append_nil]; exact h2 t' ht'
      · rcases List.mem_append.1 hp with e | e
        · exact h3 p e
        · obtain ⟨x, _, rfl⟩ := List.mem_map.1 e; exact ⟨Nat.zero_le _, .inl rfl⟩
    | succ k =>
      obtain ⟨L, h1, h2, h3, h4⟩ := rows_can t (c + 1) k ht
      refine ⟨L ++ r.map (fun x => (x, c + 1)), by rw [List.map_append, h1, c3]; rfl, fun t' ht' => ?_, fun p hp => ?_, ?_⟩
      · rw [cls_append, c1]
        by_cases e : t' = c + 1
        · have : cls L t' = [] := by
            unfold cls
            rw [List.map_eq_nil_iff, List.filter_eq_nil_iff]
            intro p hp
            have := h3 p hp
            simp; omega
          rw [if_pos e, this, List.nil_append]; exact h r (by simp)
        · rw [if_neg e, List.append_nil]; exact h2 t' ht'
      · rcases List.mem_append.1 hp with e | e
        · have := h3 p e; omega
        · obtain ⟨x, _, rfl⟩ := List.mem_map.1 e; exact ⟨by show c + 1 ≤ _; omega, .inr (by show c < c + 1; omega)⟩
      · rw [ncol_append, h4, c2, if_neg (by omega), List.take_succ_cons, boxes_cons]; omega
theorem top_can (w : List Int) (k : Nat) : Can (· ≤ ·) k w (boxes ((insW [] w).take k)) := by
  have ht : Tab (insW [] w) := insW_tab w trivial
  have h1 : Kn w (rword (insW [] w)) := by
    have := insW_word w (T := []) (fun r hr => by simp at hr)
    simpa [rword] using this
  refine (can_up h1).2 ?_
  obtain ⟨L, g1, g2, g3, g4⟩ := rows_can (insW [] w) 0 k ht.up
  exact ⟨L, g1, g2, fun p hp => by have := (g3 p hp).1; omega, g4⟩
/-- Words with the same numbers of letters in subsequences have tableaux of one shape. -/
theorem same_shape {a b : List Int} (h : ∀ k n, Can (· ≤ ·) k a n ↔ Can (· ≤ ·) k b n) (r : Nat) : ((insW [] a).getD r []).length = ((insW [] b).getD r []).length := by
  have h1 : ∀ k, boxes ((insW [] a).take k) = boxes ((insW [] b).take k) := fun k =>
    Nat.le_antisymm (greene_up ((h k _).1 (top_can a k))) (greene_up ((h k _).2 (top_can b k)))
  have h2 : ∀ T : List (List Int), boxes (T.take (r + 1)) = boxes (T.take r) + (T.getD r []).length := fun T => by
    by_cases c : r < T.length
    · exact boxes_take c
    · rw [List.take_of_length_le (by omega), List.take_of_length_le (by omega), List.getD_eq_getElem?_getD, List.getElem?_eq_none (by omega)]; simp
  have h3 := h2 (insW [] a)
  have h4 := h2 (insW [] b)
  have h5 := h1 r
  have h6 := h1 (r + 1)
  omega

/-- Rows that don't fall, known by how many letters are small. -/
theorem up_uniq : ∀ {a b : List Int} {n : Nat}, Up a → Up b → (∀ x ∈ a, 1 ≤ x ∧ x ≤ (n : Int)) → (∀ x ∈ b, 1 ≤ x ∧ x ≤ (n : Int)) → (∀ i : Nat, i ≤ n → (a.filter (· ≤ (i : Int))).length = (b.filter (· ≤ (i : Int))).length) → a = b
  | [], [], _, _, _, _, _, _ => rfl
  | [], y :: b, n, _, _, _, hb, h => by
    have h1 := h n (Nat.le_refl _)
    have h2 := hb y (by simp)
    rw [List.filter_cons_of_pos (by simpa using h2.2)] at h1
    simp at h1
  | x :: a, [], n, _, _, ha, _, h => by
    have h1 := h n (Nat.le_refl _)
    have h2 := ha x (by simp)
    rw [List.filter_cons_of_pos (by simpa using h2.2)] at h1
    simp at h1
  | x :: a, y :: b, n, ua, ub, ha, hb, h => by
    have hx := ha x (by simp)
    have hy := hb y (by simp)
    have hxy : x = y := by
      apply Classical.byContradiction
      intro hne
      by_cases c : x < y
      · have h1 := h x.toNat (by omega)
        rw [show ((x.toNat : Nat) : Int) = x by omega, List.filter_cons_of_pos (by simp), filt_none ub (by omega)] at h1
        simp at h1
      · have h1 := h y.toNat (by omega)
        rw [show ((y.toNat : Nat) : Int) = y by omega, filt_none ua (by omega), List.filter_cons_of_pos (a := y) (by simp)] at h1
        simp at h1
    subst hxy
    rw [up_uniq (n := n) ua.tail ub.tail (fun z hz => ha z (List.mem_cons_of_mem _ hz)) (fun z hz => hb z (List.mem_cons_of_mem _ hz)) (fun i hi => by
      have h1 := h i hi
      by_cases c : x ≤ (i : Int)
      · rw [List.filter_cons_of_pos (by simpa using c), List.filter_cons_of_pos (by simpa using c)] at h1
        simpa using h1
      · rw [List.filter_cons_of_neg (by simpa using c), List.filter_cons_of_neg (by simpa using c)] at h1
        exact h1)]
theorem qadd_getD {Q : List (List Int)} {r s : Nat} {c : Int} (h : r ≤ Q.length) : (qadd Q r c).getD s [] = if s = r then Q.getD r [] ++ [c] else Q.getD s [] := by
  unfold qadd
  by_cases e : r = Q.length
  · rw [if_pos e]
    subst e
    by_cases e2 : s = Q.length
    · subst e2
      rw [if_pos rfl, List.getD_eq_getElem?_getD, List.getElem?_append_right (Nat.le_refl _), List.getD_eq_getElem?_getD, List.getElem?_eq_none (Nat.le_refl _)]
      simp
    · rw [if_neg e2, List.getD_eq_getElem?_getD, List.getD_eq_getElem?_getD]
      by_cases c : s < Q.length
      · rw [List.getElem?_append_left c]
      · rw [List.getElem?_eq_none (l := Q ++ [_]) (by simp; omega), List.getElem?_eq_none (l := Q) (by omega)]
  · rw [if_neg e]
    by_cases e2 : s = r
    · subst e2
      rw [if_pos rfl, List.getD_eq_getElem?_getD, List.getElem?_set_self (by omega)]; rfl
    · rw [if_neg e2, List.getD_eq_getElem?_getD, List.getElem?_set_ne (Ne.symm e2), ← List.getD_eq_getElem?_getD]
theorem qadd_ne {Q : List (List Int)} {r : Nat} {c : Int} (h : ∀ s ∈ Q, s ≠ []) : ∀ s ∈ qadd Q r c, s ≠ [] := fun s hs => by
  unfold qadd at hs
  split at hs
  · rcases List.mem_append.1 hs with e | e
    · exact h s e
    · simp at e; rw [e]; simp
  · obtain ⟨k, hk, e⟩ := List.getElem_of_mem hs
    rw [List.getElem_set] at e
    split at e
    · rw [← e]; simp
    · rw [← e]; exact h _ (List.getElem_mem _)
theorem rows_ext {T Q : List (List Int)} (h1 : ∀ r ∈ T, r ≠ []) (h2 : ∀ r ∈ Q, r ≠ []) (h : ∀ r, T.getD r [] = Q.getD r []) : T = Q := by
  have key : ∀ {A B : List (List Int)}, (∀ r ∈ A, r ≠ []) → (∀ r, A.getD r [] = B.getD r []) → A.length ≤ B.length := fun {A B} hA hh => by
    apply Classical.byContradiction
    intro hn
    have h3 := hh B.length
    have h4 : B.length < A.length := by omega
    rw [getD_get h4, List.getD_eq_getElem?_getD, List.getElem?_eq_none (Nat.le_refl _)] at h3
    exact hA _ (List.getElem_mem h4) h3
  have hl := Nat.le_antisymm (key h1 h) (key h2 (fun r => (h r).symm))
  apply List.ext_getElem hl
  intro r g1 g2
  have := h r
  rwa [getD_get g1, getD_get g2] at this
end Go.Proofs.Ytpmkdihencepnaa

/-
  Plain: a word of unlike letters read from behind has the tableau turned over.
-/
namespace Go.Proofs.Ytpmkdihencepnaa

theorem Kn.perm {a b : List Int} (h : Kn a b) : a.Perm b := by
  induction h with
  | refl w => exact .refl _
  | step u v k =>
    refine List.Perm.append_right _ (List.Perm.append_left _ ?_)
    cases k with
    | a x y z _ _ => exact List.Perm.cons _ (List.Perm.swap _ _ _)
    | b x y z _ _ => exact List.Perm.swap _ _ _
  | symm _ ih => exact ih.symm
  | trans _ _ ih1 ih2 => exact ih1.trans ih2
theorem rword_flat : ∀ (T : List (List Int)), (rword T).Perm T.flatten
  | [] => .refl _
  | r :: t => by
    simp only [rword, List.flatten_cons]
    exact List.perm_append_comm.trans (List.Perm.append_left r (rword_flat t))
theorem made_flat (w : List Int) : (insW [] w).flatten.Perm w := by
  have h1 : Kn w (rword (insW [] w)) := by
    have := insW_word w (T := []) (fun r hr => by simp at hr)
    simpa [rword] using this
  exact ((rword_flat _).symm).trans h1.perm.symm
theorem fill_rep {T : List (List Int)} (h : Tab T) : Rep (fillC [] T) T := by
  have := Rep.fill T Rep.nil h.ne (by simpa using h.lens.1)
  simpa using this
theorem addCol_len : ∀ (c : List Int), (addCol [] c).length = c.length
  | [] => rfl
  | b :: c => by simp only [addCol, List.length_cons]; rw [addCol_len c]
theorem addCol_keep : ∀ (U : List (List Int)) (c : List Int), c.length ≤ U.length → (addCol U c).length = U.length
  | U, [], _ => by simp [addCol]
  | [], _ :: _, h => by simp at h
  | s :: U, b :: c, h => by simp only [addCol, List.length_cons]; rw [addCol_keep U c (by simpa using h)]
/-- One box more of the row. -/
theorem addCol_step : ∀ (U : List (List Int)) (r : List Int) {j : Nat} {x : Int}, r[j]? = some x → (U = [] ∨ r.length ≤ U.length) → addCol U (r.take (j + 1)) = qadd (addCol U (r.take j)) j x
  | _, [], _, _, h, _ => by simp at h
  | [], b :: r, 0, x, h, _ => by
    obtain rfl : b = x := by simpa using h
    simp [addCol, qadd]
  | [], b :: r, j + 1, x, h, _ => by
    have ih := addCol_step [] r (j := j) (x := x) (by simpa using h) (.inl rfl)
    simp only [List.take_succ_cons, addCol]
    rw [ih]
    unfold qadd
    by_cases e : j = (addCol [] (r.take j)).length
    · rw [if_pos e, if_pos (by rw [List.length_cons]; omega)]; rfl
    · rw [if_neg e, if_neg (by rw [List.length_cons]; omega)]; simp
  | s :: U, b :: r, 0, x, h, _ => by
    obtain rfl : b = x := by simpa using h
    simp [addCol, qadd]
  | s :: U, b :: r, j + 1, x, h, hl => by
    have hl2 : r.length ≤ U.length := by
      rcases hl with e | e
      · cases e
      · simpa using e
    have ih := addCol_step U r (j := j) (x := x) (by simpa using h) (.inr hl2)
    simp only [List.take_succ_cons, addCol]
    rw [ih]
    unfold qadd
    by_cases e : j = (addCol U (r.take j)).length
    · rw [if_pos e, if_pos (by rw [List.length_cons]; omega)]; rfl
    · rw [if_neg e, if_neg (by rw [List.length_cons]; omega)]; simp
theorem fillC_snoc (U T : List (List Int)) (r : List Int) : fillC U (T ++ [r]) = addCol (fillC U T) r := by
  unfold fillC; rw [List.foldl_append]; rfl
theorem fillC_take {T : List (List Int)} {i : Nat} (h : i < T.length) : fillC [] (T.take (i + 1)) = addCol (fillC [] (T.take i)) (T.getD i []) := by
  rw [take_snoc h, fillC_snoc, getD_get h]
theorem tab_take : ∀ {T : List (List Int)} (i : Nat), Tab T → Tab (T.take i)
  | [], i, _ => by simp [Tab]
  | r :: t, 0, _ => trivial
  | r :: t, i + 1, h => by
    refine ⟨h.1, h.2.1, ?_, tab_take i h.2.2.2⟩
    cases i with
    | zero => simp [Dom]
    | succ i =>
      cases t with
      | nil => simp [Dom]
      | cons s t => exact h.2.2.1
/-- How high what has been laid stands. -/
theorem fill_high {T : List (List Int)} (h : Tab T) {i : Nat} (hi : i < T.length) : fillC [] (T.take i) = [] ∧ i = 0 ∨ (T.getD i []).length ≤ (fillC [] (T.take i)).length ∧ i ≠ 0 := by
  by_cases h0 : i = 0
  · subst h0; exact .inl ⟨rfl, rfl⟩
  · refine .inr ⟨?_, h0⟩
    rw [(fill_rep (tab_take i h)).height]
    have h1 : (T.take i).getD 0 [] = T.headD [] := by
      cases T with
      | nil => simp at hi
      | cons r t =>
        obtain ⟨k, rfl⟩ : ∃ k, i = k + 1 := ⟨i - 1, by omega⟩
        simp
    rw [h1]
    exact h.lens.2 _ (by rw [getD_get hi]; exact List.getElem_mem hi)
theorem fill_short {T : List (List Int)} (h : FillOk T) (i : Nat) : (fillC [] (T.take i)).length ≤ 40 ∧ ∀ j, ((fillC [] (T.take i)).getD j []).length ≤ 40 := by
  have hr := fill_rep (tab_take i h.1)
  have h1 := hr.height
  have h2 := h.small
  refine ⟨?_, fun j => ?_⟩
  · rw [h1]
    have : ((T.take i).getD 0 []).length ≤ (T.getD 0 []).length := by
      cases T with
      | nil => simp
      | cons r t => cases i <;> simp
    have := h2.2 0
    omega
  · by_cases c : j < (fillC [] (T.take i)).length
    · apply Classical.byContradiction
      intro hn
      have h3 := hr.ent j 40
      rw [List.getElem?_eq_getElem (by omega)] at h3
      have h4 : (T.take i).length ≤ 40 := by rw [List.length_take]; omega
      rw [List.getD_eq_getElem?_getD (l := T.take i), List.getElem?_eq_none h4] at h3
      simp at h3
    · rw [List.getD_eq_getElem?_getD, List.getElem?_eq_none (by omega)]; simp
end Go.Proofs.Ytpmkdihencepnaa
