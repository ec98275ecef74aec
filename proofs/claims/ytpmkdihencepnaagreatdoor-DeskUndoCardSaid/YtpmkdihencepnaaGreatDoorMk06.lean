/- Part of the proof. -/
import Derived.Ground.Names2Prog
import Derived.Shelf.Lay
import Derived.Shelf.Slices.SearchI
import Derived.Shelf.Slices.Empties
import Derived.Test.YtpmkdihencepnaaGreatDoorMk03
import Derived.Test.YtpmkdihencepnaaGreatDoorMk04
namespace Go.Proofs.YtpmkdihencepnaaGreatDoor
section
def cls (L : List (Int × Nat)) (t : Nat) : List Int := (L.filter (fun p => decide (p.2 = t))).map (·.1)
theorem cls_append (L M : List (Int × Nat)) (t : Nat) : cls (L ++ M) t = cls L t ++ cls M t := by simp [cls]
theorem cls_cons (p : Int × Nat) (L : List (Int × Nat)) (t : Nat) : cls (p :: L) t = if p.2 = t then p.1 :: cls L t else cls L t := by
 unfold cls
 by_cases h : p.2 = t
 · rw [List.filter_cons_of_pos (by simpa using h), if_pos h]; rfl
 · rw [List.filter_cons_of_neg (by simpa using h), if_neg h]
def ncol (L : List (Int × Nat)) : Nat := L.countP (fun p => decide (p.2 ≠ 0))
theorem ncol_append (L M : List (Int × Nat)) : ncol (L ++ M) = ncol L + ncol M := by simp [ncol]
theorem ncol_cons (p : Int × Nat) (L : List (Int × Nat)) : ncol (p :: L) = ncol L + if p.2 = 0 then 0 else 1 := by
 unfold ncol
 by_cases h : p.2 = 0
 · rw [List.countP_cons_of_neg (by simpa using h), if_pos h]; rfl
 · rw [List.countP_cons_of_pos (by simpa using h), if_neg h]
def Can (R : Int → Int → Prop) (k : Nat) (w : List Int) (n : Nat) : Prop := ∃ L : List (Int × Nat), L.map (·.1) = w ∧ (∀ t, 0 < t → (cls L t).Pairwise R) ∧ (∀ p ∈ L, p.2 ≤ k) ∧ ncol L = n
theorem pw3 {R : Int → Int → Prop} (ht : ∀ a b c, R a b → R b c → R a c) {A B : List Int} {p r : Int} : (A ++ p :: r :: B).Pairwise R ↔ A.Pairwise R ∧ B.Pairwise R ∧ R p r ∧ (∀ a ∈ A, R a p) ∧ ∀ b ∈ B, R r b := by
 rw [List.pairwise_append, List.pairwise_cons, List.pairwise_cons]
 constructor
 · rintro ⟨h1, ⟨h2, h3, h4⟩, h5⟩
   exact ⟨h1, h4, h2 r (by simp), fun a ha => h5 a ha p (by simp), fun b hb => h3 b hb⟩
 · rintro ⟨h1, h2, h3, h4, h5⟩
   refine ⟨h1, ⟨fun x hx => ?_, fun x hx => h5 x hx, h2⟩, fun a ha b hb => ?_⟩
   · rcases List.mem_cons.1 hx with e | e
     · rw [e]; exact h3
     · exact ht _ _ _ h3 (h5 x e)
   · rcases List.mem_cons.1 hb with e | e
     · rw [e]; exact h4 a ha
     · rcases List.mem_cons.1 e with e | e
       · rw [e]; exact ht _ _ _ (h4 a ha) h3
       · exact ht _ _ _ (h4 a ha) (ht _ _ _ h3 (h5 b e))
theorem pw2 {R : Int → Int → Prop} (ht : ∀ a b c, R a b → R b c → R a c) {A B : List Int} {p : Int} : (A ++ p :: B).Pairwise R ↔ A.Pairwise R ∧ B.Pairwise R ∧ (∀ a ∈ A, R a p) ∧ ∀ b ∈ B, R p b := by
 rw [List.pairwise_append, List.pairwise_cons]
 constructor
 · rintro ⟨h1, ⟨h2, h3⟩, h4⟩
   exact ⟨h1, h3, fun a ha => h4 a ha p (by simp), h2⟩
 · rintro ⟨h1, h2, h3, h4⟩
   refine ⟨h1, ⟨h4, h2⟩, fun a ha b hb => ?_⟩
   rcases List.mem_cons.1 hb with e | e
   · rw [e]; exact h3 a ha
   · exact ht _ _ _ (h3 a ha) (h4 b e)
def swc (c e : Nat) (L : List (Int × Nat)) : List (Int × Nat) := L.map (fun p => (p.1, if p.2 = c then e else if p.2 = e then c else p.2))
theorem swc_key (c e q t : Nat) : ((if q = c then e else if q = e then c else q) = t) ↔ (q = (if t = c then e else if t = e then c else t)) := by
 by_cases h1 : q = c
 · rw [if_pos h1]
   by_cases h2 : t = c
   · rw [if_pos h2]; omega
   · rw [if_neg h2]
     by_cases h3 : t = e
     · rw [if_pos h3]; omega
     · rw [if_neg h3]; omega
 · rw [if_neg h1]
   by_cases h1' : q = e
   · rw [if_pos h1']
     by_cases h2 : t = c
     · rw [if_pos h2]; omega
     · rw [if_neg h2]
       by_cases h3 : t = e
       · rw [if_pos h3]; omega
       · rw [if_neg h3]; omega
   · rw [if_neg h1']
     by_cases h2 : t = c
     · rw [if_pos h2]; omega
     · rw [if_neg h2]
       by_cases h3 : t = e
       · rw [if_pos h3]; omega
       · rw [if_neg h3]
theorem swc_cls {c e : Nat} (L : List (Int × Nat)) (t : Nat) : cls (swc c e L) t = cls L (if t = c then e else if t = e then c else t) := by
 induction L with
 | nil => rfl
 | cons p L ih =>
  have : swc c e (p :: L) = (p.1, if p.2 = c then e else if p.2 = e then c else p.2) :: swc c e L := rfl
  rw [this, cls_cons, cls_cons, ih]
  by_cases h : p.2 = (if t = c then e else if t = e then c else t)
  · rw [if_pos h, if_pos ((swc_key c e p.2 t).2 h)]
  · rw [if_neg h, if_neg (fun h' => h ((swc_key c e p.2 t).1 h'))]
theorem swc_letters (c e : Nat) (L : List (Int × Nat)) : (swc c e L).map (·.1) = L.map (·.1) := by simp [swc]
theorem swc_ncol {c e : Nat} (hc : c ≠ 0) (he : e ≠ 0) (L : List (Int × Nat)) : ncol (swc c e L) = ncol L := by
 induction L with
 | nil => rfl
 | cons p L ih =>
  have : swc c e (p :: L) = (p.1, if p.2 = c then e else if p.2 = e then c else p.2) :: swc c e L := rfl
  rw [this, ncol_cons, ncol_cons, ih]
  congr 1
  show (if (if p.2 = c then e else if p.2 = e then c else p.2) = 0 then 0 else 1) = _
  by_cases h1 : p.2 = c
  · rw [if_pos h1, if_neg he, if_neg (by omega)]
  · rw [if_neg h1]
    by_cases h2 : p.2 = e
    · rw [if_pos h2, if_neg hc, if_neg (by omega)]
    · rw [if_neg h2]
theorem swc_le {c e k : Nat} (hc : c ≤ k) (he : e ≤ k) {L : List (Int × Nat)} (h : ∀ p ∈ L, p.2 ≤ k) : ∀ p ∈ swc c e L, p.2 ≤ k := fun p hp => by
 obtain ⟨q, hq, rfl⟩ := List.mem_map.1 hp
 have := h q hq
 show (if q.2 = c then e else if q.2 = e then c else q.2) ≤ k
 split
 · exact he
 · split
   · exact hc
   · exact this
theorem split3 {L : List (Int × Nat)} {u v : List Int} {p q r : Int} (h : L.map (·.1) = u ++ [p, q, r] ++ v) : ∃ U V a b c, L = U ++ (p, a) :: (q, b) :: (r, c) :: V ∧ U.map (·.1) = u ∧ V.map (·.1) = v := by
 rw [List.append_assoc] at h
 obtain ⟨U, W, rfl, hU, hW⟩ := List.map_eq_append_iff.1 h
 cases W with
 | nil => simp at hW
 | cons x W =>
  cases W with
  | nil => simp at hW
  | cons y W =>
   cases W with
   | nil => simp at hW
   | cons z W =>
    simp at hW
    obtain ⟨h1, h2, h3, h4⟩ := hW
    exact ⟨U, W, x.2, y.2, z.2, by rw [← h1, ← h2, ← h3], hU, h4⟩
theorem canG2 {R : Int → Int → Prop} (ht : ∀ a b c, R a b → R b c → R a c) {k n : Nat} {u v : List Int} {p q r : Int} (h : Can R k (u ++ [p, q, r] ++ v) n)
 (hc : R p q → R p r ∧ (∀ a, R a r → R a q) ∧ (∀ b, R q b → R r b) ∧ ¬ R q r) : Can R k (u ++ [q, p, r] ++ v) n := by
 obtain ⟨L, h1, h2, h3, h4⟩ := h
 obtain ⟨U, V, a, b, c, rfl, rfl, rfl⟩ := split3 h1
 have hb : ∀ x ∈ U ++ V, x.2 ≤ k := fun x hx => h3 x (by simp at hx ⊢; rcases hx with e | e <;> simp [e])
 have ha1 : a ≤ k := h3 (p, a) (by simp)
 have hb1 : b ≤ k := h3 (q, b) (by simp)
 have hc1 : c ≤ k := h3 (r, c) (by simp)
 by_cases hab : a = b ∧ a ≠ 0
 · obtain ⟨rfl, ha0⟩ := hab
   have e1 := h2 a (by omega)
   simp only [cls_append, cls_cons, if_true] at e1
   by_cases hca : c = a
   · exfalso
     rw [if_pos hca] at e1
     have := (List.pairwise_append.1 e1).2.1
     have h5 := List.pairwise_cons.1 this
     have h6 := List.pairwise_cons.1 h5.2
     exact (hc (h5.1 q (by simp))).2.2.2 (h6.1 r (by simp))
   · rw [if_neg hca] at e1
     obtain ⟨x1, x2, x3, x4, x5⟩ := (pw3 ht).1 e1
     obtain ⟨y1, y2, y3, _⟩ := hc x3
     by_cases hc0 : c = 0
     · subst hc0
       refine ⟨U ++ (q, 0) :: (p, a) :: (r, a) :: V, by simp, fun t ht0 => ?_, fun x hx => ?_, ?_⟩
       · by_cases hta : a = t
         · subst hta
           simp only [cls_append, cls_cons, if_true]
           rw [if_neg (by omega)]
           exact (pw3 ht).2 ⟨x1, x2, y1, x4, fun b hb => y3 b (x5 b hb)⟩
         · have := h2 t ht0
           simp only [cls_append, cls_cons, if_neg hta, if_neg (show ¬ 0 = t by omega)] at this ⊢
           exact this
       · have hx2 : x ∈ U ++ V ∨ x = (q, 0) ∨ x = (p, a) ∨ x = (r, a) := by
          simp at hx ⊢
          rcases hx with e | e | e | e | e <;> simp [e]
         rcases hx2 with e | e | e | e
         · exact hb x e
         · rw [e]; exact Nat.zero_le _
         · rw [e]; exact ha1
         · rw [e]; exact ha1
       · rw [← h4]; simp only [ncol_append, ncol_cons, if_true, if_neg ha0] <;> omega
     · have e2 := h2 c (by omega)
       simp only [cls_append, cls_cons, if_true, if_neg (fun e => hca (Eq.symm e) : ¬ a = c)] at e2
       obtain ⟨z1, z2, z3, z4⟩ := (pw2 ht).1 e2
       refine ⟨U ++ (q, c) :: (p, a) :: (r, a) :: swc a c V, by simp [swc_letters], fun t ht0 => ?_, fun x hx => ?_, ?_⟩
       · by_cases hta : a = t
         · subst hta
           simp only [cls_append, cls_cons, if_true, if_neg hca, swc_cls]
           exact (pw3 ht).2 ⟨x1, z2, y1, x4, z4⟩
         · by_cases htc : c = t
           · subst htc
             simp only [cls_append, cls_cons, if_true, if_neg hta, swc_cls]
             rw [if_neg hca]
             exact (pw2 ht).2 ⟨z1, x2, fun a ha => y2 a (z3 a ha), x5⟩
           · have := h2 t ht0
             simp only [cls_append, cls_cons, if_neg hta, if_neg htc, swc_cls] at this ⊢
             rw [if_neg (fun e => hta e.symm), if_neg (fun e => htc e.symm)]
             exact this
       · have hx2 : x ∈ U ∨ x = (q, c) ∨ x = (p, a) ∨ x = (r, a) ∨ x ∈ swc a c V := by
          simp at hx ⊢
          rcases hx with e | e | e | e | e <;> simp [e]
         rcases hx2 with e | e | e | e | e
         · exact hb x (List.mem_append_left _ e)
         · rw [e]; exact hc1
         · rw [e]; exact ha1
         · rw [e]; exact ha1
         · exact swc_le ha1 hc1 (fun y hy => hb y (List.mem_append_right _ hy)) x e
       · rw [← h4]; simp only [ncol_append, ncol_cons, if_neg ha0, if_neg hc0, swc_ncol ha0 hc0]
 · refine ⟨U ++ (q, b) :: (p, a) :: (r, c) :: V, by simp, fun t ht0 => ?_, fun x hx => ?_, ?_⟩
   · have := h2 t ht0
     simp only [cls_append, cls_cons] at this ⊢
     by_cases h5 : a = t
     · by_cases h6 : b = t
       · exact absurd ⟨by omega, by omega⟩ hab
       · rw [if_neg h6, if_pos h5]; rw [if_pos h5, if_neg h6] at this; exact this
     · rw [if_neg h5]; rw [if_neg h5] at this; exact this
   · apply h3
     simp at hx ⊢
     rcases hx with e | e | e | e | e <;> simp [e]
   · rw [← h4]; simp only [ncol_append, ncol_cons]; omega
theorem canG3 {R : Int → Int → Prop} (ht : ∀ a b c, R a b → R b c → R a c) {k n : Nat} {u v : List Int} {p q r : Int} (h : Can R k (u ++ [r, p, q] ++ v) n)
 (hc : R p q → R r q ∧ (∀ b, R r b → R p b) ∧ (∀ a, R a p → R a r) ∧ ¬ R r p) : Can R k (u ++ [r, q, p] ++ v) n := by
 obtain ⟨L, h1, h2, h3, h4⟩ := h
 obtain ⟨U, V, c, a, b, rfl, rfl, rfl⟩ := split3 h1
 have hb : ∀ x ∈ U ++ V, x.2 ≤ k := fun x hx => h3 x (by simp at hx ⊢; rcases hx with e | e <;> simp [e])
 have ha1 : a ≤ k := h3 (p, a) (by simp)
 have hc1 : c ≤ k := h3 (r, c) (by simp)
 by_cases hab : a = b ∧ a ≠ 0
 · obtain ⟨rfl, ha0⟩ := hab
   have e1 := h2 a (by omega)
   simp only [cls_append, cls_cons, if_true] at e1
   by_cases hca : c = a
   · exfalso
     rw [if_pos hca] at e1
     have := (List.pairwise_append.1 e1).2.1
     have h5 := List.pairwise_cons.1 this
     have h6 := List.pairwise_cons.1 h5.2
     exact (hc (h6.1 q (by simp))).2.2.2 (h5.1 p (by simp))
   · rw [if_neg hca] at e1
     obtain ⟨x1, x2, x3, x4, x5⟩ := (pw3 ht).1 e1
     obtain ⟨y1, y2, y3, _⟩ := hc x3
     by_cases hc0 : c = 0
     · subst hc0
       refine ⟨U ++ (r, a) :: (q, a) :: (p, 0) :: V, by simp, fun t ht0 => ?_, fun x hx => ?_, ?_⟩
       · by_cases hta : a = t
         · subst hta
           simp only [cls_append, cls_cons, if_true]
           rw [if_neg (by omega)]
           exact (pw3 ht).2 ⟨x1, x2, y1, fun z hz => y3 z (x4 z hz), x5⟩
         · have := h2 t ht0
           simp only [cls_append, cls_cons, if_neg hta, if_neg (show ¬ 0 = t by omega)] at this ⊢
           exact this
       · have hx2 : x ∈ U ++ V ∨ x = (r, a) ∨ x = (q, a) ∨ x = (p, 0) := by
          simp at hx ⊢
          rcases hx with e | e | e | e | e <;> simp [e]
         rcases hx2 with e | e | e | e
         · exact hb x e
         · rw [e]; exact ha1
         · rw [e]; exact ha1
         · rw [e]; exact Nat.zero_le _
       · rw [← h4]; simp only [ncol_append, ncol_cons, if_true, if_neg ha0] <;> omega
     · have e2 := h2 c (by omega)
       simp only [cls_append, cls_cons, if_true, if_neg (fun e => hca (Eq.symm e) : ¬ a = c)] at e2
       obtain ⟨z1, z2, z3, z4⟩ := (pw2 ht).1 e2
       refine ⟨U ++ (r, c) :: (q, c) :: (p, a) :: swc a c V, by simp [swc_letters], fun t ht0 => ?_, fun x hx => ?_, ?_⟩
       · by_cases hta : a = t
         · subst hta
           simp only [cls_append, cls_cons, if_true, if_neg hca, swc_cls]
           exact (pw2 ht).2 ⟨x1, z2, x4, fun b hb => y2 b (z4 b hb)⟩
         · by_cases htc : c = t
           · subst htc
             simp only [cls_append, cls_cons, if_true, if_neg hta, swc_cls]
             rw [if_neg hca]
             exact (pw3 ht).2 ⟨z1, x2, y1, z3, x5⟩
           · have := h2 t ht0
             simp only [cls_append, cls_cons, if_neg hta, if_neg htc, swc_cls] at this ⊢
             rw [if_neg (fun e => hta e.symm), if_neg (fun e => htc e.symm)]
             exact this
       · have hx2 : x ∈ U ∨ x = (r, c) ∨ x = (q, c) ∨ x = (p, a) ∨ x ∈ swc a c V := by
          simp at hx ⊢
          rcases hx with e | e | e | e | e <;> simp [e]
         rcases hx2 with e | e | e | e | e
         · exact hb x (List.mem_append_left _ e)
         · rw [e]; exact hc1
         · rw [e]; exact hc1
         · rw [e]; exact ha1
         · exact swc_le ha1 hc1 (fun y hy => hb y (List.mem_append_right _ hy)) x e
       · rw [← h4]; simp only [ncol_append, ncol_cons, if_neg ha0, if_neg hc0, swc_ncol ha0 hc0]
 · refine ⟨U ++ (r, c) :: (q, b) :: (p, a) :: V, by simp, fun t ht0 => ?_, fun x hx => ?_, ?_⟩
   · have := h2 t ht0
     simp only [cls_append, cls_cons] at this ⊢
     by_cases h5 : a = t
     · by_cases h6 : b = t
       · exact absurd ⟨by omega, by omega⟩ hab
       · rw [if_neg h6, if_pos h5]; rw [if_pos h5, if_neg h6] at this; exact this
     · rw [if_neg h5]; rw [if_neg h5] at this; exact this
   · apply h3
     simp at hx ⊢
     rcases hx with e | e | e | e | e <;> simp [e]
   · rw [← h4]; simp only [ncol_append, ncol_cons]; omega
theorem can_up {k n : Nat} {a b : List Int} (h : Kn a b) : Can (· ≤ ·) k a n ↔ Can (· ≤ ·) k b n := by
 have ht : ∀ a b c : Int, a ≤ b → b ≤ c → a ≤ c := fun _ _ _ => Int.le_trans
 induction h with
 | refl w => rfl
 | step u v k1 =>
  cases k1 with
  | a x y z h1 h2 => exact ⟨fun h => canG3 ht h (fun e => by omega), fun h => canG3 ht h (fun _ => ⟨h2, fun b hb => by omega, fun a ha => by omega, by omega⟩)⟩
  | b x y z h1 h2 => exact ⟨fun h => canG2 ht h (fun _ => ⟨h1, fun a ha => by omega, fun b hb => by omega, by omega⟩), fun h => canG2 ht h (fun e => by omega)⟩
 | symm _ ih => exact ih.symm
 | trans _ _ ih1 ih2 => exact ih1.trans ih2
theorem block_bound {R : Int → Int → Prop} {L : List (Int × Nat)} {k : Nat} (h : ∀ t, 0 < t → (cls L t).Pairwise R) (hk : ∀ p ∈ L, p.2 ≤ k) (hb : (L.map (·.1)).Pairwise (fun a b => ¬ R a b)) : ncol L ≤ min k L.length := by
 have h1 : ∀ t, 0 < t → (cls L t).length ≤ 1 := fun t ht0 => by
  have hp := h t ht0
  have hs : (cls L t).Pairwise (fun a b => ¬ R a b) := List.Pairwise.sublist (List.Sublist.map _ List.filter_sublist) hb
  match hc : cls L t with
  | [] => simp
  | [a] => simp
  | a :: b :: l =>
   rw [hc] at hp hs
   exact absurd ((List.pairwise_cons.1 hp).1 b (by simp)) ((List.pairwise_cons.1 hs).1 b (by simp))
 have h2 : ∀ k, L.countP (fun p => decide (1 ≤ p.2 ∧ p.2 ≤ k)) ≤ k := fun k => by
  induction k with
  | zero =>
   have : L.countP (fun p => decide (1 ≤ p.2 ∧ p.2 ≤ 0)) = 0 := by
    rw [List.countP_eq_zero]; intro p _; simp; omega
   omega
  | succ k ih =>
   have h3 : ∀ M : List (Int × Nat), M.countP (fun p => decide (1 ≤ p.2 ∧ p.2 ≤ k + 1)) = M.countP (fun p => decide (1 ≤ p.2 ∧ p.2 ≤ k)) + (cls M (k + 1)).length := fun M => by
    induction M with
    | nil => rfl
    | cons p M ihM =>
     rw [cls_cons]
     by_cases c1 : p.2 = k + 1
     · rw [List.countP_cons_of_pos (by simp; omega), List.countP_cons_of_neg (by simp; omega), if_pos c1, ihM]; simp; omega
     · by_cases c2 : 1 ≤ p.2 ∧ p.2 ≤ k
       · rw [List.countP_cons_of_pos (by simp; omega), List.countP_cons_of_pos (by simpa using c2), if_neg c1, ihM]; omega
       · rw [List.countP_cons_of_neg (by simp; omega), List.countP_cons_of_neg (by simp; omega), if_neg c1, ihM]
   have := h3 L
   have := h1 (k + 1) (by omega)
   omega
 have h4 : ncol L ≤ L.countP (fun p => decide (1 ≤ p.2 ∧ p.2 ≤ k)) := by
  unfold ncol
  refine List.countP_mono_left (fun p hp h => ?_)
  have := hk p hp
  simp at h ⊢
  omega
 have h5 := h2 k
 have h6 : ncol L ≤ L.length := List.countP_le_length
 omega
theorem can_split' {R : Int → Int → Prop} {k n : Nat} {a b : List Int} (h : Can R k (a ++ b) n) (ha : a.Pairwise (fun a b => ¬ R a b)) : ∃ m, Can R k b m ∧ n ≤ min k a.length + m := by
 obtain ⟨L, h1, h2, h3, h4⟩ := h
 obtain ⟨U, V, rfl, rfl, rfl⟩ := List.map_eq_append_iff.1 h1
 refine ⟨ncol V, ⟨V, rfl, fun t ht => ?_, fun p hp => h3 p (List.mem_append_right _ hp), rfl⟩, ?_⟩
 · have := h2 t ht
   rw [cls_append] at this
   exact (List.pairwise_append.1 this).2.1
 · rw [ncol_append] at h4
   have := block_bound (L := U) (k := k) (fun t ht => by
    have := h2 t ht
    rw [cls_append] at this
    exact (List.pairwise_append.1 this).1) (fun p hp => h3 p (List.mem_append_left _ hp)) ha
   rw [List.length_map]; omega
theorem can_nil {R : Int → Int → Prop} {k n : Nat} (h : Can R k [] n) : n = 0 := by
 obtain ⟨L, h1, _, _, h4⟩ := h
 obtain rfl : L = [] := by simpa using h1
 exact h4.symm
theorem can_cols {k : Nat} : ∀ {cs : List (List Int)} {n : Nat}, CTab cs → Can (· ≤ ·) k (cword cs) n → n ≤ (cs.map (fun c => min k c.length)).sum
 | [], n, _, h => by rw [can_nil h]; exact Nat.zero_le _
 | c :: cs, n, ht, h => by
  obtain ⟨m, h1, h2⟩ := can_split' h (List.pairwise_reverse.2 (List.Pairwise.imp (fun hab => by omega) ht.2.1))
  have := can_cols ht.2.2.2 h1
  rw [List.length_reverse] at h2
  simp only [List.map_cons, List.sum_cons]; omega
theorem addCol_top : ∀ (U : List (List Int)) (c : List Int) (k : Nat), boxes ((addCol U c).take k) = boxes (U.take k) + min k c.length
 | U, [], k => by simp [addCol]
 | [], b :: c, 0 => by simp [boxes]
 | [], b :: c, k + 1 => by
  have := addCol_top [] c k
  simp only [addCol, List.take_succ_cons, boxes_cons, List.length_cons, List.length_nil]
  rw [this]; simp [boxes]; omega
 | s :: U, b :: c, 0 => by simp [boxes]
 | s :: U, b :: c, k + 1 => by
  have := addCol_top U c k
  simp only [addCol, List.take_succ_cons, boxes_cons, List.length_append, List.length_cons, List.length_nil]
  rw [this]; omega
theorem fill_top (k : Nat) : ∀ (cs U : List (List Int)), boxes ((fillC U cs).take k) = boxes (U.take k) + (cs.map (fun c => min k c.length)).sum
 | [], U => by simp [fillC]
 | c :: cs, U => by
  have e : fillC U (c :: cs) = fillC (addCol U c) cs := rfl
  rw [e, fill_top k cs, addCol_top]
  simp only [List.map_cons, List.sum_cons]; omega
theorem greene_up {xs : List Int} {k n : Nat} (h : Can (· ≤ ·) k xs n) : n ≤ boxes ((insW [] xs).take k) := by
 have ht : Tab (insW [] xs) := insW_tab xs trivial
 obtain ⟨cs, hr, hc⟩ := ht.cols
 have h1 : Kn xs (rword (insW [] xs)) := by
  have := insW_word xs (T := []) (fun r hr => by simp at hr)
  simpa [rword] using this
 have h2 := hr.made hc
 have h3 : Kn (cword cs) (rword (insW [] xs)) := by
  have := insW_word (cword cs) (T := []) (fun r hr => by simp at hr)
  rw [← h2] at this
  simpa [rword] using this
 have h4 := can_cols hc ((can_up (h1.trans h3.symm)).1 h)
 have h5 := fill_top k cs []
 rw [← insW_cols cs hc (ColOk.nil _), ← h2] at h5
 rw [h5]; simp [boxes]; exact h4
end
section
open Go.RowKit Go.Proofs
open Go.Shelf Go.Lib Go.Sort
shelf_lay Lays2.n25 Nm2 25 at Tryz as Tryz.lays25
theorem search_any (A : Option Addr) (cap : Nat) (r : List Int) (x : Int) (w : World) (hb : r.length < 1000000) (hu : Up r) (h : Sl w w.heap.size A (ints r)) :
 Calls Tryz.prog 202 #[.slice A r.length cap, .int .i64 x] w fun e w' => (∃ z, e = .returned (.tuple #[.int .i64 (r.countP (· < x) : Nat), .bool z])) ∧ ∃ q, w' = w.drewN q := by
 by_cases h0 : 0 < r.length
 · obtain ⟨b, o, rfl, _⟩ := h.addr h0
   have := Any.slices_BinarySearch_int Tryz.lays25 b o r.length cap r x w (Nat.le_refl _) (by omega) (fun j hj => getD_cell h hj) (by rw [List.take_length]; exact hu)
   rw [List.take_length] at this
   exact this.mono (fun e w' hh => ⟨⟨_, hh.1⟩, hh.2⟩)
 · have e : r = [] := List.eq_nil_of_length_eq_zero (by omega)
   subst e
   exact (Any.slices_BinarySearch_int_empty Tryz.lays25 A cap x w).mono (fun e w' hh => ⟨⟨_, hh.1⟩, 0, hh.2⟩)
theorem push1_at {r : List Int} {x : Int} (hu : Up r) : r.countP (· < x + 1) ≤ r.length ∧
 ((r.countP (· < x + 1) = r.length → push1 r x = (r ++ [x], none)) ∧ (∀ z, r[r.countP (· < x + 1)]? = some z → push1 r x = (r.set (r.countP (· < x + 1)) x, some z))) := by
 induction r with
 | nil => exact ⟨Nat.le_refl _, fun _ => rfl, fun z e => by simp at e⟩
 | cons a s ih =>
  obtain ⟨h1, h2, h3⟩ := ih hu.tail
  by_cases c : a < x + 1
  · rw [List.countP_cons_of_pos (by simpa using c), push1_ge (by omega)]
    refine ⟨by simp; omega, fun e => ?_, fun z e => ?_⟩
    · rw [h2 (by simpa using e)]; rfl
    · rw [h3 z (by simpa using e)]; rfl
  · have h0 : List.countP (fun y => decide (y < x + 1)) s = 0 := by
     rw [List.countP_eq_zero]
     intro y hy
     have := hu.head y hy
     simp; omega
    rw [List.countP_cons_of_neg (by simpa using c), push1_lt (by omega), h0]
    refine ⟨Nat.zero_le _, fun e => by simp at e, fun z e => ?_⟩
    obtain rfl : a = z := by simpa using e
    rfl
def irow : List (List Int) → Int → Nat
 | [], _ => 0
 | r :: t, x => match (push1 r x).2 with
  | none => 0
  | some z => irow t z + 1
theorem wpList_app1g {w : World} {base : Nat} {l : List Int} {v : Value} {ops : Array Oper} {rest : List Oper} {o : Oper} {a : Act} {Q : Exit → Act → World → Prop} (hgd : o.guard = none) (s x : Operand)
 (ho : o.op = .call { callee := .builtin .append, args := #[s, x], argTypes := #[65, 65] }) (hs : a.eval s = v) (y : Int) {n : Nat}
 (hown : w.ownsRow base 3 1 v n (ints l)) (g0 : Nat) (hg0 : g0 = w.heap.size) (hx : a.eval x = .slice (some ⟨g0, 0, none⟩) 1 1) (hlen : n < 1000000) (hbase : base ≤ w.heap.size)
 (h : ∀ g cap w', w'.ownsRow base 3 1 (.slice (some ⟨g, 0, none⟩) (n + 1) cap) (n + 1) (ints (l ++ [y])) → (w.alloc (.cells #[.int .i64 y] 3)).grownBy w' v.ownBlock → (v.ownBlock = some g ∨ g = w.heap.size + 1) →
  wpList Tryz.prog ops Q rest (a.put o.dst (.slice (some ⟨g, 0, none⟩) (n + 1) cap)) w') :
 wpList Tryz.prog ops Q (o :: rest) a (w.alloc (.cells #[.int .i64 y] 3)) := by
 subst hg0
 obtain ⟨i0, hi, hz0, hz1, hz2⟩ := info_parts Tryz.infoInt
 refine wpList_append_lies _ hgd s x 65 ho base 3 i0 (.int .i64 0) 1 8 Tryz.underlying65 hi hz0 hz1 hz2 rfl (by decide) v n (ints l) hs (hown.alloc _) ⟨w.heap.size, 0, none⟩ 1 1 [.int .i64 y] hx rfl ?_ (by simp [Value.oneCell']) (by decide)
  (by unfold maxLen; omega) (by omega) (by simp; omega) _ rfl (fun g cap w' h1 h2 h3 _ => ?_)
 · intro j u hu
   match j, hu with
   | 0, hu => simp at hu; subst hu; simp [Addr.add]
 · exact h g cap w' (by simpa [ints] using h1) h2 (by simpa using h3)
theorem OwnM.put2 {w : World} {B g n c : Nat} {hs : List Value} {rows : List (List Int)} (hlen : hs.length = rows.length) (hn : n = rows.length) (hout : w.ownsRow B 65 1 (.slice (some ⟨g, 0, none⟩) n c) n hs) {i : Nat} (hi : i < rows.length)
 (hinn : ∀ r, r < rows.length → r ≠ i → w.ownsRow B 3 1 (hs.getD r undef) (rows.getD r []).length (ints (rows.getD r [])))
 (hfar : ∀ r s, r < rows.length → s < rows.length → r ≠ i → s ≠ i → r ≠ s → Far (hs.getD r undef) (hs.getD s undef))
 (htop : ∀ r, r < rows.length → r ≠ i → Far (.slice (some ⟨g, 0, none⟩) n c) (hs.getD r undef))
 {u : Value} {l : List Int} (hu : w.ownsRow B 3 1 u l.length (ints l)) (hf : ∀ r, r < rows.length → r ≠ i → Far (hs.getD r undef) u) (hv : Far (.slice (some ⟨g, 0, none⟩) n c) u) :
 OwnM (w.setCell ⟨g, i, none⟩ u) B (.slice (some ⟨g, 0, none⟩) n c) (hs.set i u) (rows.set i l) := by
 have hL : (rows.set i l).length = rows.length := by simp
 subst hn
 have hil : i < hs.length := by rw [hlen]; exact hi
 have other : ∀ {base m : Nat} {e : TypeId} {x : Value} {cs : List Value}, w.ownsRow base e 1 x m cs → (∀ k, x.ownBlock = some k → k ≠ g) → (w.setCell ⟨g, i, none⟩ u).ownsRow base e 1 x m cs := by
  intro base m e x cs ho hne
  refine ⟨ho.1, ?_⟩
  rcases ho.2 with hn | ⟨g', cap, cur, e1, hg', hh, rest⟩
  · exact .inl hn
  · refine .inr ⟨g', cap, cur, e1, hg', ?_, rest⟩
    have : g' ≠ g := hne g' (by rw [e1]; rfl)
    rw [← hh]
    simp [World.setCell, Array.getElem?_modify, Ne.symm this]
 have hgb : ∀ x : Value, Far (.slice (some ⟨g, 0, none⟩) rows.length c) x → ∀ k, x.ownBlock = some k → k ≠ g := fun x hf k hk e => by
  subst e; exact hf k rfl hk
 have here : (hs.set i u).getD i undef = u ∧ (rows.set i l).getD i [] = l := by
  rw [List.getD_eq_getElem?_getD, List.getD_eq_getElem?_getD, List.getElem?_set_self hil, List.getElem?_set_self hi]; exact ⟨rfl, rfl⟩
 have there : ∀ r, r ≠ i → (hs.set i u).getD r undef = hs.getD r undef ∧ (rows.set i l).getD r [] = rows.getD r [] := fun r hr => by
  simp only [List.getD_eq_getElem?_getD, List.getElem?_set_ne (fun e => hr (Eq.symm e))]; exact ⟨trivial, trivial⟩
 refine ⟨by rw [hL, List.length_set]; exact hlen, ?_, fun r hr => ?_, fun r s hr hs' hne => ?_, fun r hr => ?_⟩
 · rw [hL]; exact (hout.stored i u).1
 · rw [hL] at hr
   by_cases e : r = i
   · subst e; rw [here.1, here.2]; exact other hu (hgb u hv)
   · rw [(there r e).1, (there r e).2]; exact other (hinn r hr e) (hgb _ (htop r hr e))
 · rw [hL] at hr hs'
   by_cases e : r = i
   · subst e
     rw [here.1, (there s (Ne.symm hne)).1]; exact (hf s hs' (Ne.symm hne)).symm
   · by_cases e2 : s = i
     · subst e2
       rw [here.1, (there r hne).1]; exact hf r hr hne
     · rw [(there r e).1, (there s e2).1]; exact hfar r s hr hs' e e2 hne
 · rw [hL] at hr
   by_cases e : r = i
   · subst e; rw [here.1]; exact hv
   · rw [(there r e).1]; exact htop r hr e
theorem OwnM.app {w w' : World} {B G n c : Nat} {hs : List Value} {rows : List (List Int)} (h : OwnM w B (.slice (some ⟨G, 0, none⟩) n c) hs rows) {i : Nat} (hi : i < rows.length) {l : List Int} {g cap m : Nat} {o : Obj} (hm : m = l.length)
 (ho : w'.ownsRow B 3 1 (.slice (some ⟨g, 0, none⟩) m cap) m (ints l)) (hg : (w.alloc o).grownBy w' (hs.getD i undef).ownBlock) (hat : (hs.getD i undef).ownBlock = some g ∨ g = w.heap.size + 1) :
 OwnM (w'.setCell ⟨G, i, none⟩ (.slice (some ⟨g, 0, none⟩) m cap)) B (.slice (some ⟨G, 0, none⟩) n c) (hs.set i (.slice (some ⟨g, 0, none⟩) m cap)) (rows.set i l) := by
 have hn : n = rows.length := by
  rcases h.out.2 with ⟨e1, _⟩ | ⟨_, _, _, e1, _⟩
  · cases e1
  · injection e1
 subst hm
 have nf : ∀ x : Value, Far (hs.getD i undef) x → (∀ k, x.ownBlock = some k → k < w.heap.size) → Far x (.slice (some ⟨g, 0, none⟩) l.length cap) := fun x hx hlt k hk e => by
  obtain rfl : g = k := by simpa [Value.ownBlock] using e
  rcases hat with e2 | e2
  · exact hx _ e2 hk
  · have := hlt _ hk; omega
 have hto := h.out
 rw [← hn] at hto
 exact OwnM.put2 h.len hn ((hto.alloc o).kept hg (h.top i hi).symm.ne) hi (fun r hr hne => ((h.inn r hr).alloc o).kept hg (h.far i r hi hr (Ne.symm hne)).ne)
  (fun r s hr hs' _ _ hne => h.far r s hr hs' hne) (fun r hr _ => h.top r hr) ho (fun r hr hne => nf _ (h.far i r hi hr (Ne.symm hne)) (fun k hk => ((h.inn r hr).lt k hk).2))
  (nf _ (h.top i hi).symm (fun k hk => (h.out.lt k hk).2))
structure Putting (T : List (List Int)) (x : Int) (i : Nat) (x' : Int) (D : List (List Int)) : Prop where
 len : D.length = i
 ins : ins1 T x = D ++ ins1 (T.drop i) x'
 row : irow T x = i + irow (T.drop i) x'
theorem Putting.start (T : List (List Int)) (x : Int) : Putting T x 0 x [] := ⟨rfl, by simp, by simp⟩
theorem drop_row {T : List (List Int)} {i : Nat} (hi : i < T.length) : T.drop i = T.getD i [] :: T.drop (i + 1) := by
 rw [List.drop_eq_getElem_cons hi, getD_get hi]
theorem Putting.on {T : List (List Int)} {x x' z : Int} {i : Nat} {D : List (List Int)} (h : Putting T x i x' D) (hi : i < T.length) (hp : (push1 (T.getD i []) x').2 = some z) : Putting T x (i + 1) z (D ++ [(push1 (T.getD i []) x').1]) := by
 refine ⟨by simp [h.len], ?_, ?_⟩
 · rw [h.ins, drop_row hi]; simp only [ins1]; rw [hp]; simp
 · rw [h.row, drop_row hi]; simp only [irow]; rw [hp]; simp; omega
theorem Putting.stop {T : List (List Int)} {x x' : Int} {i : Nat} {D : List (List Int)} (h : Putting T x i x' D) (hi : i < T.length) (hp : (push1 (T.getD i []) x').2 = none) : ins1 T x = (D ++ T.drop i).set i (push1 (T.getD i []) x').1 ∧ irow T x = i := by
 constructor
 · rw [h.ins, drop_row hi]; simp only [ins1]; rw [hp, ← h.len]; simp
 · rw [h.row, drop_row hi]; simp only [irow]; rw [hp]; rfl
theorem Putting.end_ {T : List (List Int)} {x x' : Int} {i : Nat} {D : List (List Int)} (h : Putting T x i x' D) (hi : i = T.length) : ins1 T x = D ++ [[x']] ∧ irow T x = i ∧ D ++ T.drop i = D := by
 have e : T.drop i = [] := List.drop_of_length_le (by omega)
 refine ⟨by rw [h.ins, e]; rfl, by rw [h.row, e]; rfl, by rw [e]; simp⟩
theorem Putting.cur {T : List (List Int)} {x x' : Int} {i : Nat} {D : List (List Int)} (h : Putting T x i x' D) (hi : i < T.length) : (D ++ T.drop i).length = T.length ∧ (D ++ T.drop i).getD i [] = T.getD i [] ∧ ∀ r, (D ++ T.drop i).set i r = (D ++ [r]) ++ T.drop (i + 1) := by
 refine ⟨by simp [h.len]; omega, ?_, fun r => ?_⟩
 · rw [drop_row hi, List.getD_eq_getElem?_getD, List.getElem?_append_right (by rw [h.len]; omega)]; simp [h.len]
 · rw [drop_row hi, ← h.len]; simp
end
section
def qadd (Q : List (List Int)) (r : Nat) (c : Int) : List (List Int) := if r = Q.length then Q ++ [[c]] else Q.set r (Q.getD r [] ++ [c])
def shadd (s : List Nat) (r : Nat) : List Nat := if r = s.length then s ++ [1] else s.set r (s.getD r 0 + 1)
def sh (T : List (List Int)) : List Nat := T.map List.length
theorem sh_length (T : List (List Int)) : (sh T).length = T.length := by simp [sh]
theorem sh_getD (T : List (List Int)) (r : Nat) : (sh T).getD r 0 = (T.getD r []).length := by
 unfold sh
 rw [List.getD_eq_getElem?_getD, List.getD_eq_getElem?_getD, List.getElem?_map]
 cases T[r]? <;> simp
theorem push1_length {r : List Int} {x : Int} : (push1 r x).1.length = r.length + if (push1 r x).2 = none then 1 else 0 := by
 have := push1_len (s := r) (x := x)
 cases e : (push1 r x).2 with
 | none => rw [e] at this; simp at this; simp; omega
 | some z => rw [e] at this; simp at this; simp; omega
theorem sh_ins1 : ∀ (T : List (List Int)) (x : Int), irow T x ≤ T.length ∧ sh (ins1 T x) = shadd (sh T) (irow T x)
 | [], x => ⟨Nat.le_refl _, rfl⟩
 | r :: t, x => by
  simp only [ins1, irow]
  cases e : (push1 r x).2 with
  | none =>
   refine ⟨Nat.zero_le _, ?_⟩
   have := push1_length (r := r) (x := x)
   rw [e] at this
   simp [shadd, sh, this]
  | some z =>
   have ih := sh_ins1 t z
   have h1 := push1_length (r := r) (x := x)
   rw [e] at h1
   refine ⟨by simp; exact ih.1, ?_⟩
   have h2 : sh ((push1 r x).1 :: ins1 t z) = r.length :: sh (ins1 t z) := by simp [sh, h1]
   show sh ((push1 r x).1 :: ins1 t z) = _
   rw [h2, ih.2]
   unfold shadd
   have h3 : sh (r :: t) = r.length :: sh t := rfl
   rw [h3]
   by_cases c : irow t z = (sh t).length
   · rw [if_pos c, if_pos (by simp [c])]; rfl
   · rw [if_neg c, if_neg (by simp; exact c)]; simp
def recQ (xs cs : List Int) : Nat → List (List Int)
 | 0 => []
 | i + 1 => qadd (recQ xs cs i) (irow (insW [] (xs.take i)) (xs.getD i 0)) (cs.getD i 0)
end
section
open Go.RowKit
theorem lt_wrap {x : Int} (h : Lt x) : IntKind.i64.wrap (x + 1) = x + 1 := IntWalk.i64_in _ (by have := h.1; have := h.2; omega)
end
end Go.Proofs.YtpmkdihencepnaaGreatDoor
