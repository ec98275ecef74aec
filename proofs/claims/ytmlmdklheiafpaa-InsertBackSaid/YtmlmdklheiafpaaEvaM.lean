/-
  Plain: SCHUETZENBERGER'S: words from behind, what is evacuated; promotion as a relation of words.
-/
import Derived.Test.YtmlmdklheiafpaaPlacY
import Derived.Test.YtmlmdklheiafpaaPlacS
import Derived.Test.YtmlmdklheiafpaaPlacT
namespace Go.Proofs.Ytmlmdklheiafpaa

/-- Read from behind, n + 1 - x for x. -/
def star (n : Int) (w : List Int) : List Int := (w.map (fun x => n + 1 - x)).reverse
theorem star_append (n : Int) (u v : List Int) : star n (u ++ v) = star n v ++ star n u := by simp [star]
theorem star_star (n : Int) (w : List Int) : star n (star n w) = w := by
  unfold star
  rw [List.map_reverse, List.reverse_reverse, List.map_map]
  conv => rhs; rw [← List.map_id w]
  exact List.map_congr_left (fun x _ => by simp; omega)
theorem star_len (n : Int) (w : List Int) : (star n w).length = w.length := by simp [star]
theorem star_filter (n m : Int) (w : List Int) : (star n w).filter (fun x => decide (x ≤ n - m)) = star n (w.filter (fun x => decide (m < x))) := by
  unfold star
  rw [List.filter_reverse, List.filter_map]
  congr 2
  exact List.filter_congr (fun x _ => by simp; omega)
theorem Kn.star (n : Int) {a b : List Int} (h : Kn a b) : Kn (star n a) (star n b) := by
  induction h with
  | refl w => exact .refl _
  | step u v k =>
    rw [star_append, star_append, star_append, star_append, ← List.append_assoc, ← List.append_assoc]
    refine Kn.ctx _ _ ?_
    cases k with
    | a x y z h1 h2 => exact (Kn.one (K1.b (n + 1 - z) (n + 1 - y) (n + 1 - x) (by omega) (by omega))).symm
    | b x y z h1 h2 => exact (Kn.one (K1.a (n + 1 - z) (n + 1 - y) (n + 1 - x) (by omega) (by omega))).symm
  | symm _ ih => exact ih.symm
  | trans _ _ ih1 ih2 => exact ih1.trans ih2
theorem Kn.star_iff (n : Int) {a b : List Int} : Kn (Go.Proofs.Ytmlmdklheiafpaa.star n a) (Go.Proofs.Ytmlmdklheiafpaa.star n b) ↔ Kn a b :=
  ⟨fun h => by have := h.star n; rwa [star_star, star_star] at this, fun h => h.star n⟩
theorem Kn.keepGt (m : Int) {a b : List Int} (h : Kn a b) : Kn (a.filter (fun x => decide (m < x))) (b.filter (fun x => decide (m < x))) := by
  have h1 := (h.star 0).keepLe (0 - m)
  rw [star_filter, star_filter] at h1
  exact (Kn.star_iff 0).1 h1
/-- Every letter d less. -/
def dec (d : Int) (w : List Int) : List Int := w.map (fun x => x - d)
theorem dec_star (d : Int) (w : List Int) : dec d w = star (0 - d) (star 0 w) := by
  unfold dec star
  rw [List.map_reverse, List.reverse_reverse, List.map_map]
  exact List.map_congr_left (fun x _ => by simp; omega)
theorem Kn.dec (d : Int) {a b : List Int} (h : Kn a b) : Kn (Go.Proofs.Ytmlmdklheiafpaa.dec d a) (Go.Proofs.Ytmlmdklheiafpaa.dec d b) := by
  rw [dec_star, dec_star]; exact (h.star 0).star _
theorem Kn.dec_iff (d : Int) {a b : List Int} : Kn (Go.Proofs.Ytmlmdklheiafpaa.dec d a) (Go.Proofs.Ytmlmdklheiafpaa.dec d b) ↔ Kn a b := by
  rw [dec_star, dec_star, Kn.star_iff, Kn.star_iff]
theorem dec_dec (a b : Int) (w : List Int) : dec a (dec b w) = dec (b + a) w := by
  unfold dec
  rw [List.map_map]
  exact List.map_congr_left (fun x _ => by simp; omega)
theorem dec_zero (w : List Int) : dec 0 w = w := by
  unfold dec
  conv => rhs; rw [← List.map_id w]
  exact List.map_congr_left (fun x _ => by simp)
theorem dec_le (d m : Int) (w : List Int) : (dec d w).filter (fun x => decide (x ≤ m)) = dec d (w.filter (fun x => decide (x ≤ m + d))) := by
  unfold dec
  rw [List.filter_map]
  congr 1
  exact List.filter_congr (fun x _ => by simp; omega)
theorem dec_gt (d m : Int) (w : List Int) : (dec d w).filter (fun x => decide (m < x)) = dec d (w.filter (fun x => decide (m + d < x))) := by
  unfold dec
  rw [List.filter_map]
  congr 1
  exact List.filter_congr (fun x _ => by simp; omega)
theorem can_star {n : Int} {w : List Int} {k m : Nat} (h : Can (· ≤ ·) k w m) : Can (· ≤ ·) k (star n w) m := by
  obtain ⟨L, h1, h2, h3, h4⟩ := h
  refine ⟨(L.map (fun p => (n + 1 - p.1, p.2))).reverse, ?_, fun t ht => ?_, fun p hp => ?_, ?_⟩
  · unfold star
    rw [List.map_reverse, List.map_map, ← h1, List.map_map]; rfl
  · have : cls (L.map (fun p => (n + 1 - p.1, p.2))).reverse t = ((cls L t).map (fun x => n + 1 - x)).reverse := by
      unfold cls
      rw [List.filter_reverse, List.map_reverse, List.filter_map, List.map_map, List.map_map]
      rfl
    rw [this, List.pairwise_reverse, List.pairwise_map]
    exact (h2 t ht).imp (fun hab => by omega)
  · rw [List.mem_reverse] at hp
    obtain ⟨q, hq, rfl⟩ := List.mem_map.1 hp
    exact h3 q hq
  · unfold ncol at h4 ⊢
    rw [List.countP_reverse, List.countP_map, ← h4]
    rfl
/-- How long the a-th row of a word's tableau is. -/
def shp (w : List Int) (a : Nat) : Nat := ((insW [] w).getD a []).length
theorem shp_kn {u v : List Int} (h : Kn u v) (a : Nat) : shp u a = shp v a := by
  unfold shp; rw [insW_Kn0 _ (Nat.le_refl _) h]
theorem shp_star (n : Int) (w : List Int) (a : Nat) : shp (star n w) a = shp w a :=
  same_shape (fun k m => ⟨fun h => by have := can_star (n := n) h; rwa [star_star] at this, can_star⟩) a
theorem shp_dec (d : Int) (w : List Int) (a : Nat) : shp (dec d w) a = shp w a := by rw [dec_star, shp_star, shp_star]
/-- Letters of a row up to m. -/
def upto (T : List (List Int)) (a : Nat) (m : Int) : Nat := ((T.getD a []).filter (fun x => decide (x ≤ m))).length
theorem upto_made (w : List Int) (a : Nat) (m : Int) : upto (insW [] w) a m = shp (w.filter (fun x => decide (x ≤ m))) a := by
  unfold upto shp
  have ht : Tab (insW [] w) := insW_tab w trivial
  rw [res_made, (res_tab ht).2]
theorem upto_tab {T : List (List Int)} (h : Tab T) (a : Nat) (m : Int) : upto T a m = shp ((rword T).filter (fun x => decide (x ≤ m))) a := by
  rw [← upto_made, insW_rword h]
theorem upto_mono (T : List (List Int)) (a : Nat) {m m' : Int} (h : m ≤ m') : upto T a m ≤ upto T a m' := by
  unfold upto
  rw [← List.countP_eq_length_filter, ← List.countP_eq_length_filter]
  exact List.countP_mono_left (fun x _ hx => by simp at hx ⊢; omega)
theorem upto_le (T : List (List Int)) (a : Nat) (m : Int) : upto T a m ≤ rl T a := List.length_filter_le _ _
theorem upto_all {T : List (List Int)} {m : Int} (h : ∀ a, ∀ x ∈ T.getD a [], x ≤ m) (a : Nat) : upto T a m = rl T a := by
  unfold upto rl
  rw [List.filter_eq_self.2 (fun x hx => by have := h a x hx; simpa using this)]
theorem shp_rl {T : List (List Int)} (h : Tab T) (a : Nat) : shp (rword T) a = rl T a := by
  unfold shp rl; rw [insW_rword h]
/-- Tableaux of letters up to n, known by how many of a row's letters are small. -/
theorem tab_uniq {T U : List (List Int)} {n : Nat} (hT : Tab T) (hU : Tab U) (h1 : ∀ x ∈ rword T, 1 ≤ x ∧ x ≤ (n : Int)) (h2 : ∀ x ∈ rword U, 1 ≤ x ∧ x ≤ (n : Int)) (h : ∀ a (m : Nat), m ≤ n → upto T a m = upto U a m) : T = U := by
  have hm : ∀ {V : List (List Int)} {a : Nat} {x : Int}, x ∈ V.getD a [] → x ∈ rword V := fun {V a x} hx => by
    rw [rword_mem]
    by_cases c : a < V.length
    · rw [getD_get c] at hx; exact ⟨_, List.getElem_mem c, hx⟩
    · rw [getD_far (by omega)] at hx; simp at hx
  exact rows_ext hT.ne hU.ne (fun a => up_uniq (n := n) (hT.upD a) (hU.upD a) (fun x hx => h1 x (hm hx)) (fun x hx => h2 x (hm hx)) (fun m hm => h a m hm))

/-- The length of the a-th row, when only the letters above n - m are left and have slid. -/
def chn (n : Nat) (w : List Int) (m : Nat) (a : Nat) : Nat := shp (w.filter (fun x => decide ((n : Int) - (m : Int) < x))) a
theorem chn_eq (n : Nat) (w : List Int) (m a : Nat) : chn n w m a = upto (insW [] (star n w)) a m := by
  rw [upto_made]
  unfold chn
  have := star_filter n ((n : Int) - m) w
  rw [show (n : Int) - ((n : Int) - m) = m by omega] at this
  rw [this, shp_star]
theorem chn_mono (n : Nat) (w : List Int) {m m' : Nat} (h : m ≤ m') (a : Nat) : chn n w m a ≤ chn n w m' a := by
  rw [chn_eq, chn_eq]; exact upto_mono _ _ (by omega)
theorem Std.perm {T : List (List Int)} (h : Std T) : IsPerm (rword T) ∧ (rword T).length = boxes T := by
  have h1 := rword_flat T
  exact ⟨IsPerm.of_perm h1 h.2, (boxes_word T).symm⟩
theorem Std.bnd {T : List (List Int)} (h : Std T) : ∀ x ∈ rword T, 1 ≤ x ∧ x ≤ (boxes T : Int) := fun x hx => by
  have := h.perm.1.2 x hx
  rwa [h.perm.2] at this
theorem star_bnd {n : Int} {w : List Int} (h : ∀ x ∈ w, 1 ≤ x ∧ x ≤ n) : ∀ x ∈ star n w, 1 ≤ x ∧ x ≤ n := fun x hx => by
  unfold star at hx
  rw [List.mem_reverse] at hx
  obtain ⟨y, hy, rfl⟩ := List.mem_map.1 hx
  have := h y hy
  omega
theorem made_kn (w : List Int) : Kn w (rword (insW [] w)) := by
  have := insW_word w (T := []) (fun r hr => by simp at hr)
  simpa [rword] using this
theorem made_bnd {n : Int} {w : List Int} (h : ∀ x ∈ w, 1 ≤ x ∧ x ≤ n) : ∀ x ∈ rword (insW [] w), 1 ≤ x ∧ x ≤ n := fun x hx => h x (((made_kn w).mem x).2 hx)
theorem std_of {n : Nat} {w : List Int} (h : IsPerm w) (hn : w.length = n) (h40 : n ≤ 40) : Std (insW [] w) ∧ boxes (insW [] w) = n := by
  have h1 := fill_word (w := w) (by omega) (fun x hx => by have := h.2 x hx; exact ⟨by omega, by omega⟩)
  exact ⟨⟨h1.1, IsPerm.of_perm (made_flat w) h⟩, by rw [h1.2, hn]⟩
theorem IsPerm.star {w : List Int} (h : IsPerm w) : IsPerm (Go.Proofs.Ytmlmdklheiafpaa.star w.length w) := by
  refine ⟨?_, fun x hx => ?_⟩
  · unfold Go.Proofs.Ytmlmdklheiafpaa.star
    rw [List.nodup_iff_pairwise_ne, List.pairwise_reverse, List.pairwise_map]
    exact (List.nodup_iff_pairwise_ne.1 h.1).imp (fun hab => by omega)
  · rw [star_len]
    exact star_bnd h.2 x hx
/-- What is evacuated. -/
def eva (T : List (List Int)) : List (List Int) := insW [] (star (boxes T) (rword T))
theorem Std.eva {T : List (List Int)} (h : Std T) : Std (eva T) ∧ boxes (eva T) = boxes T ∧ eva (eva T) = T ∧ ∀ a, rl (eva T) a = rl T a := by
  have h1 := h.perm
  have h2 := h1.1.star
  rw [h1.2] at h2
  have h3 := std_of h2 (by rw [star_len, h1.2]) h.1.2.2
  refine ⟨h3.1, h3.2, ?_, fun a => ?_⟩
  · unfold Go.Proofs.Ytmlmdklheiafpaa.eva at h3 ⊢
    rw [h3.2]
    have h4 := (made_kn (Go.Proofs.Ytmlmdklheiafpaa.star (boxes T) (rword T))).star (boxes T)
    rw [star_star] at h4
    rw [← insW_Kn0 _ (Nat.le_refl _) h4, insW_rword h.1.1]
  · rw [← shp_rl h.1.1, ← shp_star (boxes T)]; rfl
theorem row_count {l : List Int} {m : Int} {c : Nat} (hc : c ≤ l.length) (h : ∀ b (hb : b < l.length), l[b] ≤ m ↔ b < c) : (l.filter (fun x => decide (x ≤ m))).length = c := by
  conv => lhs; rw [← List.take_append_drop c l]
  rw [List.filter_append, List.length_append]
  have h1 : (l.take c).filter (fun x => decide (x ≤ m)) = l.take c := by
    rw [List.filter_eq_self]
    intro x hx
    obtain ⟨b, hb, rfl⟩ := List.getElem_of_mem hx
    rw [List.length_take] at hb
    rw [List.getElem_take]
    exact decide_eq_true ((h b (by omega)).2 (by omega))
  have h2 : (l.drop c).filter (fun x => decide (x ≤ m)) = [] := by
    rw [List.filter_eq_nil_iff]
    intro x hx
    obtain ⟨b, hb, rfl⟩ := List.getElem_of_mem hx
    rw [List.length_drop] at hb
    rw [List.getElem_drop]
    intro hh
    have := (h (c + b) (by omega)).1 (of_decide_eq_true hh)
    omega
  rw [h1, h2, List.length_take]; simp; omega
/-- What stands where the holes have gone out. -/
theorem eva_of {T E : List (List Int)} (h : Std T) (hl : E.length = T.length) (hr : ∀ a, rl E a = rl T a) (hs : ∀ a b, b < rl T a → ∀ m : Nat, m ≤ boxes T → (cell E a b ≤ (m : Int) ↔ b < chn (boxes T) (rword T) m a)) : E = eva T := by
  obtain ⟨e1, e2, e3, e4⟩ := h.eva
  have hb := star_bnd h.bnd
  have hmb := made_bnd hb
  have hch : ∀ m a, chn (boxes T) (rword T) m a = upto (eva T) a m := fun m a => chn_eq _ _ _ _
  have hcl : ∀ m a, chn (boxes T) (rword T) m a ≤ rl T a := fun m a => by rw [hch, ← e4]; exact upto_le _ _ _
  have hlow : ∀ a b, b < rl T a → 1 ≤ cell E a b ∧ cell E a b ≤ (boxes T : Int) := fun a b hb => by
    have h1 := hs a b hb 0 (Nat.zero_le _)
    have h2 := hs a b hb (boxes T) (Nat.le_refl _)
    have h3 : chn (boxes T) (rword T) 0 a = 0 := by
      unfold chn
      rw [List.filter_eq_nil_iff.2 (fun x hx => by have := h.bnd x hx; simp; omega)]; rfl
    have h4 : chn (boxes T) (rword T) (boxes T) a = rl T a := by
      unfold chn
      rw [List.filter_eq_self.2 (fun x hx => by have := h.bnd x hx; simp; omega), shp_rl h.1.1]
    rw [h3] at h1
    rw [h4] at h2
    omega
  have hne : ∀ r ∈ E, r ≠ [] := fun r hr2 => by
    obtain ⟨a, ha, rfl⟩ := List.getElem_of_mem hr2
    intro e
    have h1 := hr a
    unfold rl at h1
    rw [getD_get ha, e] at h1
    have h2 := h.1.1.ne (T.getD a []) (by rw [getD_get (by omega)]; exact List.getElem_mem _)
    exact h2 (List.eq_nil_of_length_eq_zero (by simpa using h1.symm))
  refine rows_ext hne e1.1.1.ne (fun a => up_uniq (n := boxes T) ?_ (e1.1.1.upD a) (fun x hx => ?_) (fun x hx => ?_) (fun m hm => ?_))
  · unfold Up
    rw [List.pairwise_iff_getElem]
    intro i j hi hj hij
    have h1 := hlow a j (by rw [← hr]; exact hj)
    have h2 := hs a j (by rw [← hr]; exact hj) (cell E a j).toNat (by omega)
    have h3 := hs a i (by rw [← hr]; exact hi) (cell E a j).toNat (by omega)
    have h4 := h2.1 (by omega)
    have h5 := h3.2 (by omega)
    unfold cell at h5 h1
    rw [getD_get hi] at h5
    rw [getD_get hj] at h5 h1
    omega
  · obtain ⟨b, hb2, rfl⟩ := List.getElem_of_mem hx
    have := hlow a b (by rw [← hr]; exact hb2)
    unfold cell at this
    rwa [getD_get hb2] at this
  · refine hmb x ?_
    rw [rword_mem]
    by_cases c : a < (eva T).length
    · rw [getD_get c] at hx; exact ⟨_, List.getElem_mem c, hx⟩
    · rw [getD_far (by omega)] at hx; simp at hx
  · have h1 : ((E.getD a []).filter (fun x => decide (x ≤ (m : Int)))).length = chn (boxes T) (rword T) m a := by
      have hrl : rl E a = (E.getD a []).length := rfl
      refine row_count (by rw [← hrl, hr]; exact hcl m a) (fun b hb2 => ?_)
      have := hs a b (by rw [← hr]; exact hb2) m hm
      unfold cell at this
      rwa [getD_get hb2] at this
    rw [h1, hch]; rfl

/-- The least letter goes, the others are one less, a new greatest one comes: as words tell it. -/
structure Pro (T U : List (List Int)) : Prop where
  t : Std T
  u : Std U
  rls : ∀ a, rl U a = rl T a
  bx : boxes U = boxes T
  kn : Kn (dec 1 ((rword T).filter (fun x => decide (1 < x)))) ((rword U).filter (fun x => decide (x ≤ (boxes T : Int) - 1)))
theorem Pro.fn {T U V : List (List Int)} (h : Pro T U) (h2 : Pro T V) : U = V := by
  refine tab_uniq (n := boxes T) h.u.1.1 h2.u.1.1 (fun x hx => by rw [← h.bx]; exact h.u.bnd x hx) (fun x hx => by rw [← h2.bx]; exact h2.u.bnd x hx) (fun a m hm => ?_)
  by_cases e : m = boxes T
  · have hall : ∀ {W : List (List Int)}, Std W → boxes W = boxes T → ∀ a, ∀ x ∈ W.getD a [], x ≤ (m : Int) := fun {W} hW hb a x hx => by
      have hx2 : x ∈ rword W := by
        rw [rword_mem]
        by_cases c : a < W.length
        · rw [getD_get c] at hx; exact ⟨_, List.getElem_mem c, hx⟩
        · rw [getD_far (by omega)] at hx; simp at hx
      have := (hW.bnd x hx2).2
      rw [e, ← hb]; exact this
    rw [upto_all (hall h.u h.bx), upto_all (hall h2.u h2.bx), h.rls, h2.rls]
  · have hk := (h.kn.symm.trans h2.kn).keepLe m
    rw [List.filter_filter, List.filter_filter] at hk
    have hf : ∀ w : List Int, w.filter (fun x => decide (x ≤ (m : Int)) && decide (x ≤ (boxes T : Int) - 1)) = w.filter (fun x => decide (x ≤ (m : Int))) := fun w => List.filter_congr (fun x _ => by
      rw [← Bool.decide_and]
      exact decide_eq_decide.2 ⟨fun h => h.1, fun h => ⟨h, by omega⟩⟩)
    rw [hf, hf] at hk
    rw [upto_tab h.u.1.1, upto_tab h2.u.1.1, shp_kn hk]
theorem Pro.inj {T D U : List (List Int)} (h : Pro T U) (h2 : Pro D U) : T = D := by
  have hbx : boxes D = boxes T := by rw [← h.bx, h2.bx]
  have key : eva T = eva D := by
    obtain ⟨e1, e2, _, e4⟩ := h.t.eva
    obtain ⟨f1, f2, _, f4⟩ := h2.t.eva
    refine tab_uniq (n := boxes T) e1.1.1 f1.1.1 (fun x hx => by rw [← e2]; exact e1.bnd x hx) (fun x hx => by rw [← hbx, ← f2]; exact f1.bnd x hx) (fun a m hm => ?_)
    have g1 := chn_eq (boxes T) (rword T) m a
    have g2 := chn_eq (boxes D) (rword D) m a
    show upto (insW [] _) a m = upto (insW [] _) a m
    rw [← g1, ← g2, hbx]
    by_cases e : m = boxes T
    · unfold chn
      rw [List.filter_eq_self.2 (fun x hx => by have := h.t.bnd x hx; simp; omega), List.filter_eq_self.2 (fun x hx => by have := h2.t.bnd x hx; simp; omega), shp_rl h.t.1.1, shp_rl h2.t.1.1, ← h.rls, ← h2.rls]
    · have hk := h2.kn
      rw [hbx] at hk
      have hk2 := ((Kn.dec_iff 1).1 (h.kn.trans hk.symm)).keepGt ((boxes T : Int) - m)
      rw [List.filter_filter, List.filter_filter] at hk2
      have hf : ∀ w : List Int, w.filter (fun x => decide ((boxes T : Int) - m < x) && decide (1 < x)) = w.filter (fun x => decide ((boxes T : Int) - m < x)) := fun w => List.filter_congr (fun x _ => by
        rw [← Bool.decide_and]
        exact decide_eq_decide.2 ⟨fun h => h.1, fun h => ⟨h, by omega⟩⟩)
      rw [hf, hf] at hk2
      exact shp_kn hk2 a
  have h3 := h.t.eva.2.2.1
  have h4 := h2.t.eva.2.2.1
  rw [← h3, key, h4]
/-- Promoted so many times. -/
inductive Pros : Nat → List (List Int) → List (List Int) → Prop
  | zero {T : List (List Int)} : Std T → Pros 0 T T
  | succ {k : Nat} {T U V : List (List Int)} : Pros k T U → Pro U V → Pros (k + 1) T V
theorem Pros.facts {k : Nat} {T U : List (List Int)} (h : Pros k T U) : Std T ∧ Std U ∧ (∀ a, rl U a = rl T a) ∧ boxes U = boxes T := by
  induction h with
  | zero h => exact ⟨h, h, fun _ => rfl, rfl⟩
  | succ _ hp ih => exact ⟨ih.1, hp.u, fun a => by rw [hp.rls, ih.2.2.1], by rw [hp.bx, ih.2.2.2]⟩
theorem Pros.split {i j : Nat} : ∀ {T U : List (List Int)}, Pros (i + j) T U → ∃ V, Pros i T V ∧ Pros j V U := by
  induction j with
  | zero => intro T U h; exact ⟨U, h, .zero h.facts.2.1⟩
  | succ j ih =>
    intro T U h
    cases h with
    | succ h1 h2 =>
      obtain ⟨V, g1, g2⟩ := ih h1
      exact ⟨V, g1, .succ g2 h2⟩
theorem Pros.word {i : Nat} {T U : List (List Int)} (h : Pros i T U) : ∀ m : Nat, m + i ≤ boxes T → Kn (dec i ((rword T).filter (fun x => decide ((i : Int) < x) && decide (x ≤ (i : Int) + m)))) ((rword U).filter (fun x => decide (x ≤ (m : Int)))) := by
  induction h with
  | zero hT =>
    intro m _
    have : (fun x : Int => decide (((0 : Nat) : Int) < x) && decide (x ≤ ((0 : Nat) : Int) + m)) = fun x : Int => decide (0 < x) && decide (x ≤ (m : Int)) := by
      funext x; simp
    rw [this, show dec ((0 : Nat) : Int) _ = _ from dec_zero _]
    rw [List.filter_congr (q := fun x => decide (x ≤ (m : Int))) (fun x hx => by have := hT.bnd x hx; simp; omega)]
    exact .refl _
  | @succ k T V U hk hp ih =>
    intro m hm
    have hb := hk.facts.2.2.2
    have h1 := ih (m + 1) (by omega)
    have h2 := (h1.keepGt 1).dec 1
    have h3 := hp.kn.keepLe m
    rw [dec_gt, dec_dec, List.filter_filter] at h2
    rw [dec_le, List.filter_filter, List.filter_filter] at h3
    have e1 : (rword T).filter (fun x => decide (1 + (k : Int) < x) && (decide ((k : Int) < x) && decide (x ≤ (k : Int) + ((m + 1 : Nat) : Int)))) = (rword T).filter (fun x => decide (((k + 1 : Nat) : Int) < x) && decide (x ≤ ((k + 1 : Nat) : Int) + m)) :=
      List.filter_congr (fun x _ => by rw [← Bool.decide_and, ← Bool.decide_and, ← Bool.decide_and]; exact decide_eq_decide.2 ⟨fun h => ⟨by omega, by omega⟩, fun h => ⟨by omega, by omega, by omega⟩⟩)
    have e2 : ((rword V).filter (fun x => decide (x ≤ ((m + 1 : Nat) : Int)))).filter (fun x => decide (1 < x)) = (rword V).filter (fun x => decide (x ≤ (m : Int) + 1) && decide (1 < x)) := by
      rw [List.filter_filter]
      exact List.filter_congr (fun x _ => by rw [← Bool.decide_and, ← Bool.decide_and]; exact decide_eq_decide.2 ⟨fun h => ⟨by omega, by omega⟩, fun h => ⟨by omega, by omega⟩⟩)
    have e3 : (rword U).filter (fun x => decide (x ≤ (m : Int)) && decide (x ≤ (boxes V : Int) - 1)) = (rword U).filter (fun x => decide (x ≤ (m : Int))) :=
      List.filter_congr (fun x _ => by rw [← Bool.decide_and]; exact decide_eq_decide.2 ⟨fun h => h.1, fun h => ⟨h, by omega⟩⟩)
    rw [e1, e2] at h2
    rw [e3] at h3
    rw [show ((k : Int) + 1) = ((k + 1 : Nat) : Int) by omega] at h2
    exact h2.trans h3

/-- Rows of one length c. -/
def Rect (T : List (List Int)) (c : Nat) : Prop := ∀ r ∈ T, r.length = c
/-- Turned by half. -/
def half (n : Int) (T : List (List Int)) : List (List Int) := (T.map (star n)).reverse
theorem half_word (n : Int) : ∀ T : List (List Int), rword (half n T) = star n (rword T)
  | [] => rfl
  | r :: t => by
    have ih := half_word n t
    unfold half at ih ⊢
    rw [List.map_cons, List.reverse_cons, rword_append, ih]
    show rword [star n r] ++ _ = star n (rword t ++ r)
    rw [star_append]
    simp [rword]
theorem star_up {n : Int} {r : List Int} (h : Up r) : Up (star n r) := by
  unfold Up star
  rw [List.pairwise_reverse, List.pairwise_map]
  exact List.Pairwise.imp (fun hab => by omega) h
theorem dom_rect {r s : List Int} (hl : r.length = s.length) (h : ∀ (j : Nat) (a b : Int), r[j]? = some a → s[j]? = some b → a < b) : Dom r s :=
  dom_of (fun j b hb => by
    have hj := (List.getElem?_eq_some_iff.1 hb).1
    have hj2 : j < r.length := by omega
    exact ⟨r[j], List.getElem?_eq_getElem hj2, h j _ _ (List.getElem?_eq_getElem hj2) hb⟩)
theorem half_row (n : Int) {T : List (List Int)} {a : Nat} (h : a < T.length) : (half n T).getD a [] = star n (T.getD (T.length - 1 - a) []) := by
  unfold half
  rw [getD_get (by simpa using h), List.getElem_reverse, List.getElem_map, getD_get (by omega)]
  simp only [List.length_map]
theorem half_tab (n : Int) {T : List (List Int)} {c : Nat} (h : Tab T) (hr : Rect T c) : Tab (half n T) := by
  refine tab_of (fun s hs => ?_) (fun a => ?_)
  · unfold half at hs
    rw [List.mem_reverse] at hs
    obtain ⟨r, hr2, rfl⟩ := List.mem_map.1 hs
    refine ⟨fun e => h.ne r hr2 (List.eq_nil_of_length_eq_zero (by rw [← star_len n, e]; rfl)), star_up (h.up r hr2)⟩
  · by_cases ha : a + 1 < T.length
    · rw [half_row n (by omega), half_row n ha]
      have l1 : (T.getD (T.length - 1 - a) []).length = c := hr _ (by rw [getD_get (by omega)]; exact List.getElem_mem _)
      have l2 : (T.getD (T.length - 1 - (a + 1)) []).length = c := hr _ (by rw [getD_get (by omega)]; exact List.getElem_mem _)
      refine dom_rect (by rw [star_len, star_len, l1, l2]) (fun j x y hx hy => ?_)
      unfold star at hx hy
      obtain ⟨hj, rfl⟩ := List.getElem?_eq_some_iff.1 hx
      obtain ⟨hj2, rfl⟩ := List.getElem?_eq_some_iff.1 hy
      rw [List.length_reverse, List.length_map] at hj hj2
      rw [List.getElem_reverse, List.getElem_reverse, List.getElem_map, List.getElem_map]
      simp only [List.length_map, l1, l2]
      have hd := h.dom (T.length - 1 - (a + 1))
      rw [show T.length - 1 - (a + 1) + 1 = T.length - 1 - a by omega] at hd
      obtain ⟨u, hu, hlt⟩ := dom_at hd (List.getElem?_eq_getElem (show c - 1 - j < (T.getD (T.length - 1 - a) []).length by omega))
      obtain ⟨_, rfl⟩ := List.getElem?_eq_some_iff.1 hu
      omega
    · have : (half n T).getD (a + 1) [] = [] := getD_far (by unfold half; simp; omega)
      rw [this]; simp only [Dom]
/-- A box's letters above k, slid: what is left of the box when the letters up to k are taken off, turned by half. -/
theorem rect_above {T : List (List Int)} {c : Nat} (h : Std T) (hr : Rect T c) (k : Nat) {a : Nat} (ha : a < T.length) : shp ((rword T).filter (fun x => decide ((k : Int) < x))) a + upto T (T.length - 1 - a) k = c := by
  have h1 := star_filter (boxes T) k (rword T)
  rw [← shp_star (boxes T), ← h1, ← half_word, ← upto_tab (half_tab _ h.1.1 hr)]
  unfold upto
  rw [half_row _ ha, star_filter, star_len]
  have l1 : (T.getD (T.length - 1 - a) []).length = c := hr _ (by rw [getD_get (by omega)]; exact List.getElem_mem _)
  rw [← l1]
  have h2 := List.length_eq_countP_add_countP (fun x => decide ((k : Int) < x)) (l := T.getD (T.length - 1 - a) [])
  rw [← List.countP_eq_length_filter, ← List.countP_eq_length_filter, h2]
  congr 1
  refine List.countP_congr (fun x _ => ?_)
  simp
theorem rl_len {T U : List (List Int)} (hT : Tab T) (hU : Tab U) (h : ∀ a, rl U a = rl T a) : U.length = T.length := by
  have key : ∀ {A B : List (List Int)}, Tab A → (∀ a, rl A a = rl B a) → A.length ≤ B.length := fun {A B} hA hh => by
    apply Classical.byContradiction
    intro hn
    have h1 := hh B.length
    have h2 : B.length < A.length := by omega
    unfold rl at h1
    rw [getD_get h2, getD_far (Nat.le_refl _)] at h1
    exact hA.ne _ (List.getElem_mem h2) (List.eq_nil_of_length_eq_zero (by simpa using h1))
  exact Nat.le_antisymm (key hU h) (key hT (fun a => (h a).symm))
/-- A box of rows of one length, promoted as often as it has boxes. -/
theorem Pros.rect {T U : List (List Int)} {c : Nat} (h : Pros (boxes T) T U) (hr : Rect T c) : U = T := by
  obtain ⟨hT, hU, hrl, hbx⟩ := h.facts
  refine tab_uniq (n := boxes T) hU.1.1 hT.1.1 (fun x hx => by rw [← hbx]; exact hU.bnd x hx) hT.bnd (fun a m hm => ?_)
  by_cases ha : a < T.length
  · obtain ⟨V, h1, h2⟩ := Pros.split (i := m) (j := boxes T - m) (by rw [show m + (boxes T - m) = boxes T by omega]; exact h)
    obtain ⟨_, hV, hvl, hvb⟩ := h1.facts
    have hlen := rl_len hT.1.1 hV.1.1 hvl
    have hrV : Rect V c := fun r hm2 => by
      obtain ⟨i, hi, rfl⟩ := List.getElem_of_mem hm2
      have e1 := hvl i
      unfold rl at e1
      rw [getD_get hi, getD_get (by omega)] at e1
      rw [e1]; exact hr _ (List.getElem_mem _)
    have a1 := h2.word m (by omega)
    have a2 := h1.word (boxes T - m) (by omega)
    have b1 := rect_above hV hrV (boxes T - m) (a := a) (by omega)
    have b2 := rect_above hT hr m (a := T.length - 1 - a) (by omega)
    rw [show T.length - 1 - (T.length - 1 - a) = a by omega] at b2
    have c1 := shp_kn a1 a
    have c2 := shp_kn a2 (T.length - 1 - a)
    rw [shp_dec, ← upto_tab hU.1.1] at c1
    rw [shp_dec, ← upto_tab hV.1.1] at c2
    have f1 : (rword V).filter (fun x => decide (((boxes T - m : Nat) : Int) < x) && decide (x ≤ ((boxes T - m : Nat) : Int) + (m : Int))) = (rword V).filter (fun x => decide (((boxes T - m : Nat) : Int) < x)) :=
      List.filter_congr (fun x hx => by have := hV.bnd x hx; rw [← Bool.decide_and]; exact decide_eq_decide.2 ⟨fun h => h.1, fun h => ⟨h, by omega⟩⟩)
    have f2 : (rword T).filter (fun x => decide ((m : Int) < x) && decide (x ≤ (m : Int) + ((boxes T - m : Nat) : Int))) = (rword T).filter (fun x => decide ((m : Int) < x)) :=
      List.filter_congr (fun x hx => by have := hT.bnd x hx; rw [← Bool.decide_and]; exact decide_eq_decide.2 ⟨fun h => h.1, fun h => ⟨h, by omega⟩⟩)
    rw [f1] at c1
    rw [f2] at c2
    rw [hlen] at b1
    omega
  · unfold upto
    rw [getD_far (by have := rl_len hT.1.1 hU.1.1 hrl; omega), getD_far (by omega)]
end Go.Proofs.Ytmlmdklheiafpaa
